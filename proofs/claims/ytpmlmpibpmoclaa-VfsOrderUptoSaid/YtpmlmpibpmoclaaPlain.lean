/-
  Files as rising lists of paths with bytes: plain facts without a program: the order of paths, insertion, deletion, look-up, and that two rising lists with the same look-up are one.
-/
import GoSem.Op.String
import Derived.Lib.Bytes
namespace Go.Proofs.Ytpmlmpibpmoclaa

abbrev Fl := ByteArray × ByteArray

/-- The order of paths: that of their bytes' lists. -/
def plt (a b : ByteArray) : Bool := Op.bytesLess a.toList b.toList

theorem bless_eq : ∀ (x y : List UInt8), Op.bytesLess x y = decide (x < y)
  | [], [] => by simp [Op.bytesLess]
  | _ :: _, [] => by simp [Op.bytesLess]
  | [], _ :: _ => by simp [Op.bytesLess]
  | a :: x, b :: y => by
    rw [Op.bytesLess, bless_eq x y]
    simp only [List.cons_lt_cons_iff]
    by_cases h1 : a < b <;> by_cases h2 : a = b <;> by_cases h3 : x < y <;> simp [h1, h2, h3]

theorem toList_inj {a b : ByteArray} (h : a.toList = b.toList) : a = b := by
  rw [Lib.toList_data, Lib.toList_data] at h
  cases a; cases b; simp at h; congr

theorem plt_eq (a b : ByteArray) : plt a b = decide (a.toList < b.toList) := bless_eq _ _

theorem plt_irrefl (a : ByteArray) : plt a a = false := by
  rw [plt_eq]; simp

theorem plt_trans {a b c : ByteArray} (h : plt a b = true) (h' : plt b c = true) : plt a c = true := by
  rw [plt_eq] at *; simp at *; exact List.lt_trans h h'

theorem plt_asymm {a b : ByteArray} (h : plt a b = true) : plt b a = false := by
  cases h' : plt b a
  · rfl
  · have := plt_trans h h'; rw [plt_irrefl] at this; cases this

theorem plt_total {a b : ByteArray} (h : a ≠ b) : plt a b = true ∨ plt b a = true := by
  rw [plt_eq, plt_eq]; simp
  have hne : a.toList ≠ b.toList := fun e => h (toList_inj e)
  rcases Std.lt_trichotomy a.toList b.toList with h1 | h1 | h1
  · exact .inl h1
  · exact absurd h1 hne
  · exact .inr h1

theorem plt_ne {a b : ByteArray} (h : plt a b = true) : a ≠ b := fun e => by rw [e, plt_irrefl] at h; cases h

def Rising (S : List Fl) : Prop := S.Pairwise fun p q => plt p.1 q.1 = true

def keys (S : List Fl) : List ByteArray := S.map Prod.fst

theorem Rising.nodup {S : List Fl} (h : Rising S) : (keys S).Nodup := by
  unfold keys List.Nodup
  rw [List.pairwise_map]
  exact h.imp fun h => plt_ne h

theorem nodup_of_keys {S : List Fl} (h : (keys S).Nodup) : S.Nodup := by
  unfold keys List.Nodup at *
  rw [List.pairwise_map] at h
  exact h.imp fun h e => h (by rw [e])

theorem mem_takeWhile_imp {α : Type} {p : α → Bool} : ∀ {l : List α} {x : α}, x ∈ l.takeWhile p → p x = true
  | [], _, h => by simp at h
  | a :: l, x, h => by
    rw [List.takeWhile_cons] at h
    split at h
    · rcases List.mem_cons.1 h with rfl | h
      · assumption
      · exact mem_takeWhile_imp h
    · simp at h

theorem takeWhile_all {α : Type} {p : α → Bool} : ∀ {l : List α}, (∀ x ∈ l, p x = true) → l.takeWhile p = l
  | [], _ => rfl
  | a :: l, h => by
    rw [List.takeWhile_cons, if_pos (h a (by simp)), takeWhile_all fun x hx => h x (by simp [hx])]

/-- What stands under a path. -/
def look (S : List Fl) (k : ByteArray) : Option ByteArray := (S.find? fun p => decide (p.1 = k)).map Prod.snd

theorem look_some {S : List Fl} (h : (keys S).Nodup) {k v : ByteArray} : look S k = some v ↔ (k, v) ∈ S := by
  unfold look
  induction S with
  | nil => simp
  | cons p r ih =>
    obtain ⟨k', v'⟩ := p
    have hn : k' ∉ keys r ∧ (keys r).Nodup := by simpa [keys] using h
    rw [List.find?_cons]
    by_cases e : k' = k
    · subst e
      simp
      constructor
      · rintro rfl; exact .inl rfl
      · rintro (h1 | h1)
        · exact h1.symm
        · exact absurd (List.mem_map.2 ⟨_, h1, rfl⟩) hn.1
    · simp [e]
      have := ih hn.2
      simp at this
      rw [this]
      constructor
      · exact .inr
      · rintro (h1 | h1)
        · exact absurd h1.1.symm e
        · exact h1

theorem look_none {S : List Fl} {k : ByteArray} : look S k = none ↔ k ∉ keys S := by
  unfold look keys
  simp
  constructor
  · intro h v hv; exact h k v hv rfl
  · intro h a b hab e; subst e; exact h _ hab

theorem look_perm {S T : List Fl} (hS : (keys S).Nodup) (h : S.Perm T) (k : ByteArray) : look S k = look T k := by
  have hT : (keys T).Nodup := (h.map Prod.fst).nodup hS
  cases e : look T k with
  | none => rw [look_none] at *; intro h1; exact e ((h.map Prod.fst).mem_iff.1 h1)
  | some v => rw [look_some hS]; rw [look_some hT] at e; exact h.mem_iff.2 e

/-- Two rising lists with one look-up are one. -/
theorem rising_ext {S T : List Fl} (hS : Rising S) (hT : Rising T) (h : ∀ k, look S k = look T k) : S = T := by
  have hmem : ∀ p : Fl, p ∈ S ↔ p ∈ T := fun ⟨k, v⟩ => by
    rw [← look_some hS.nodup, ← look_some hT.nodup, h]
  have hp : S.Perm T := (List.perm_ext_iff_of_nodup (nodup_of_keys hS.nodup) (nodup_of_keys hT.nodup)).2 hmem
  exact List.Perm.eq_of_pairwise (le := fun p q : Fl => plt p.1 q.1 = true) (fun p q _ _ h1 h2 => by rw [plt_asymm h1] at h2; cases h2) hS hT hp

theorem rising_perm {S T : List Fl} (hS : Rising S) (hT : Rising T) (h : S.Perm T) : S = T :=
  rising_ext hS hT (look_perm hS.nodup h)

/-! ### the place of a path -/

/-- How many paths are below k. -/
def idx (S : List Fl) (k : ByteArray) : Nat := (S.takeWhile fun p => plt p.1 k).length

def hit (S : List Fl) (k : ByteArray) : Bool := (look S k).isSome

theorem idx_le (S : List Fl) (k : ByteArray) : idx S k ≤ S.length := (List.takeWhile_sublist _).length_le

theorem take_idx (S : List Fl) (k : ByteArray) : S.take (idx S k) = S.takeWhile fun p => plt p.1 k := by
  unfold idx
  induction S with
  | nil => rfl
  | cons p r ih =>
    rw [List.takeWhile_cons]
    split
    · simp [ih]
    · simp

theorem drop_idx (S : List Fl) (k : ByteArray) : S.drop (idx S k) = S.dropWhile fun p => plt p.1 k := by
  unfold idx
  induction S with
  | nil => rfl
  | cons p r ih =>
    rw [List.takeWhile_cons, List.dropWhile_cons]
    split
    · simp [ih]
    · simp

theorem below_idx {S : List Fl} {k : ByteArray} {i : Nat} (h : i < idx S k) : ∃ h' : i < S.length, plt S[i].1 k = true := by
  have hl : i < S.length := Nat.lt_of_lt_of_le h (idx_le S k)
  refine ⟨hl, ?_⟩
  have hm : S[i] ∈ S.takeWhile fun p => plt p.1 k := by
    rw [← take_idx]
    have : (S.take (idx S k))[i]'(by simp; omega) = S[i] := by simp
    rw [← this]; exact List.getElem_mem _
  have := mem_takeWhile_imp hm
  simpa using this

theorem at_idx {S : List Fl} {k : ByteArray} (h : idx S k < S.length) : plt S[idx S k].1 k = false := by
  have hd := drop_idx S k
  have h0 : (S.drop (idx S k)).head? = some S[idx S k] := by
    rw [List.head?_drop]; simp [h]
  rw [hd] at h0
  have := List.head?_dropWhile_not (p := fun p : Fl => plt p.1 k) (l := S)
  rw [h0] at this
  simpa using this

/-- All behind the place are above k, or the first is k itself. -/
theorem idx_eq {S : List Fl} {k : ByteArray} {i : Nat} (hi : i ≤ S.length) (hlo : ∀ j (h : j < S.length), j < i → plt S[j].1 k = true) (hhi : ∀ h : i < S.length, plt S[i].1 k = false) : i = idx S k := by
  rcases Nat.lt_trichotomy i (idx S k) with h | h | h
  · obtain ⟨h1, h2⟩ := below_idx h
    rw [hhi h1] at h2; cases h2
  · exact h
  · have h1 := at_idx (S := S) (k := k) (by omega)
    rw [hlo _ (by omega) h] at h1; cases h1

theorem drop_above {S : List Fl} (hS : Rising S) {k : ByteArray} : ∀ p ∈ S.drop (idx S k), p.1 = k ∨ plt k p.1 = true := by
  intro p hp
  obtain ⟨j, hj, rfl⟩ := List.mem_iff_getElem.1 hp
  simp at hj
  have h0 := at_idx (S := S) (k := k) (by omega)
  simp only [List.getElem_drop]
  by_cases e : j = 0
  · subst e
    simp only [Nat.add_zero]
    by_cases e2 : S[idx S k].1 = k
    · exact .inl e2
    · rcases plt_total e2 with h | h
      · rw [h0] at h; cases h
      · exact .inr h
  · right
    have hlt : plt S[idx S k].1 S[idx S k + j].1 = true := by
      have := (List.pairwise_iff_getElem.1 hS) (idx S k) (idx S k + j) (by omega) (by omega) (by omega)
      exact this
    by_cases e2 : S[idx S k].1 = k
    · rw [e2] at hlt; exact hlt
    · rcases plt_total e2 with h | h
      · rw [h0] at h; cases h
      · exact plt_trans h hlt

theorem hit_iff {S : List Fl} (hS : Rising S) {k : ByteArray} : hit S k = true ↔ ∃ h : idx S k < S.length, S[idx S k].1 = k := by
  unfold hit
  constructor
  · intro h
    obtain ⟨v, hv⟩ := Option.isSome_iff_exists.1 h
    rw [look_some hS.nodup] at hv
    obtain ⟨j, hj, e⟩ := List.mem_iff_getElem.1 hv
    have hj0 : j = idx S k := idx_eq (by omega) (fun i hi hij => by
      have := (List.pairwise_iff_getElem.1 hS) i j hi hj hij
      rw [e] at this; exact this) (fun _ => by rw [e]; exact plt_irrefl _)
    subst hj0
    exact ⟨hj, by rw [e]⟩
  · rintro ⟨h, e⟩
    have : look S k = some S[idx S k].2 := (look_some hS.nodup).2 (by
      have : (k, S[idx S k].2) = S[idx S k] := Prod.ext e.symm rfl
      rw [this]; exact List.getElem_mem _)
    rw [this]; rfl

theorem hit_look {S : List Fl} (hS : Rising S) {k : ByteArray} (h : idx S k < S.length) (e : S[idx S k].1 = k) : look S k = some S[idx S k].2 :=
  (look_some hS.nodup).2 (by
    have : (k, S[idx S k].2) = S[idx S k] := Prod.ext e.symm rfl
    rw [this]; exact List.getElem_mem _)

/-- A path gets its bytes. -/
def ins (S : List Fl) (k v : ByteArray) : List Fl := S.take (idx S k) ++ (k, v) :: S.drop (idx S k + if hit S k then 1 else 0)

/-- A path goes. -/
def del (S : List Fl) (k : ByteArray) : List Fl := if hit S k then S.take (idx S k) ++ S.drop (idx S k + 1) else S

theorem rising_take {S : List Fl} (hS : Rising S) (n : Nat) : Rising (S.take n) := List.Pairwise.sublist (List.take_sublist _ _) hS
theorem rising_drop {S : List Fl} (hS : Rising S) (n : Nat) : Rising (S.drop n) := List.Pairwise.sublist (List.drop_sublist _ _) hS

theorem above_rest {S : List Fl} (hS : Rising S) (k : ByteArray) : ∀ p ∈ S.drop (idx S k + if hit S k then 1 else 0), plt k p.1 = true := by
  intro p hp
  by_cases h : hit S k = true
  · rw [if_pos h] at hp
    obtain ⟨h1, e1⟩ := (hit_iff hS).1 h
    obtain ⟨j, hj, rfl⟩ := List.mem_iff_getElem.1 hp
    simp at hj
    simp only [List.getElem_drop]
    have := (List.pairwise_iff_getElem.1 hS) (idx S k) (idx S k + 1 + j) h1 (by omega) (by omega)
    rw [e1] at this; exact this
  · rw [if_neg h] at hp
    simp only [Nat.add_zero] at hp
    rcases drop_above hS p hp with e | e
    · exfalso
      apply h
      unfold hit
      cases hl : look S k with
      | none => rw [look_none] at hl; exact absurd (List.mem_map.2 ⟨p, List.mem_of_mem_drop hp, e⟩) hl
      | some v => rfl
    · exact e

theorem mem_take_idx {S : List Fl} {k : ByteArray} {p : Fl} (hp : p ∈ S.take (idx S k)) : plt p.1 k = true := by
  rw [take_idx] at hp
  have := mem_takeWhile_imp hp
  simpa using this

theorem ins_rising {S : List Fl} (hS : Rising S) (k v : ByteArray) : Rising (ins S k v) := by
  unfold ins Rising
  rw [List.pairwise_append]
  refine ⟨rising_take hS _, ?_, ?_⟩
  · rw [List.pairwise_cons]
    exact ⟨fun p hp => above_rest hS k p hp, rising_drop hS _⟩
  · intro p hp q hq
    have h1 := mem_take_idx hp
    rcases List.mem_cons.1 hq with rfl | hq
    · exact h1
    · exact plt_trans h1 (above_rest hS k q hq)

theorem mem_ins {S : List Fl} (hS : Rising S) (k v : ByteArray) (p : Fl) : p ∈ ins S k v ↔ p = (k, v) ∨ (p ∈ S ∧ p.1 ≠ k) := by
  unfold ins
  simp only [List.mem_append, List.mem_cons]
  constructor
  · rintro (h | h | h)
    · exact .inr ⟨List.mem_of_mem_take h, plt_ne (mem_take_idx h)⟩
    · exact .inl h
    · exact .inr ⟨List.mem_of_mem_drop h, fun e => plt_ne (above_rest hS k p h) e.symm⟩
  · rintro (h | ⟨h, hne⟩)
    · exact .inr (.inl h)
    · rw [← List.take_append_drop (idx S k) S] at h
      rcases List.mem_append.1 h with h | h
      · exact .inl h
      · right; right
        by_cases hh : hit S k = true
        · rw [if_pos hh]
          obtain ⟨h1, e1⟩ := (hit_iff hS).1 hh
          rw [List.drop_eq_getElem_cons h1] at h
          rcases List.mem_cons.1 h with rfl | h
          · exact absurd e1 hne
          · exact h
        · rw [if_neg hh]; exact h

theorem look_ins {S : List Fl} (hS : Rising S) (k v x : ByteArray) : look (ins S k v) x = if x = k then some v else look S x := by
  have hn := (ins_rising hS k v).nodup
  by_cases e : x = k
  · subst e
    rw [if_pos rfl, look_some hn, mem_ins hS]; exact .inl rfl
  · rw [if_neg e]
    cases h : look S x with
    | none =>
      rw [look_none] at *
      intro h1
      obtain ⟨p, hp, rfl⟩ := List.mem_map.1 h1
      rcases (mem_ins hS k v p).1 hp with rfl | ⟨h2, _⟩
      · exact e rfl
      · exact h (List.mem_map.2 ⟨p, h2, rfl⟩)
    | some b =>
      rw [look_some hS.nodup] at h
      rw [look_some hn, mem_ins hS]
      exact .inr ⟨h, e⟩

theorem del_rising {S : List Fl} (hS : Rising S) (k : ByteArray) : Rising (del S k) := by
  unfold del
  split
  · unfold Rising
    rw [List.pairwise_append]
    refine ⟨rising_take hS _, rising_drop hS _, ?_⟩
    intro p hp q hq
    have := above_rest hS k q (by rw [if_pos ‹_›]; exact hq)
    exact plt_trans (mem_take_idx hp) this
  · exact hS

theorem mem_del {S : List Fl} (hS : Rising S) (k : ByteArray) (p : Fl) : p ∈ del S k ↔ p ∈ S ∧ p.1 ≠ k := by
  unfold del
  split
  · rename_i hh
    have hm := mem_ins hS k ByteArray.empty p
    unfold ins at hm
    rw [if_pos hh] at hm
    simp only [List.mem_append, List.mem_cons] at hm ⊢
    constructor
    · rintro (h | h)
      · exact ⟨List.mem_of_mem_take h, plt_ne (mem_take_idx h)⟩
      · exact ⟨List.mem_of_mem_drop h, fun e => plt_ne (above_rest hS k p (by rw [if_pos hh]; exact h)) e.symm⟩
    · intro h
      rcases hm.2 (.inr h) with h1 | h1 | h1
      · exact .inl h1
      · exact absurd (by rw [h1]) h.2
      · exact .inr h1
  · rename_i hh
    constructor
    · intro h
      refine ⟨h, fun e => hh ?_⟩
      unfold hit
      cases hl : look S k with
      | none => rw [look_none] at hl; exact absurd (List.mem_map.2 ⟨p, h, e⟩) hl
      | some v => rfl
    · exact fun h => h.1

theorem look_del {S : List Fl} (hS : Rising S) (k x : ByteArray) : look (del S k) x = if x = k then none else look S x := by
  have hn := (del_rising hS k).nodup
  by_cases e : x = k
  · subst e
    rw [if_pos rfl, look_none]
    intro h1
    obtain ⟨p, hp, rfl⟩ := List.mem_map.1 h1
    exact ((mem_del hS _ p).1 hp).2 rfl
  · rw [if_neg e]
    cases h : look S x with
    | none =>
      rw [look_none] at *
      intro h1
      obtain ⟨p, hp, rfl⟩ := List.mem_map.1 h1
      exact h (List.mem_map.2 ⟨p, ((mem_del hS k p).1 hp).1, rfl⟩)
    | some b =>
      rw [look_some hS.nodup] at h
      rw [look_some hn, mem_del hS]
      exact ⟨h, e⟩

theorem length_ins {S : List Fl} (hS : Rising S) (k v : ByteArray) : (ins S k v).length = if hit S k then S.length else S.length + 1 := by
  unfold ins
  have := idx_le S k
  by_cases h : hit S k = true
  · obtain ⟨h1, _⟩ := (hit_iff hS).1 h
    simp [h]; omega
  · simp [h]; omega

theorem length_del_le (S : List Fl) (k : ByteArray) : (del S k).length ≤ S.length := by
  unfold del
  split
  · simp; omega
  · exact Nat.le_refl _

/-! ### a map's entries, in whatever order -/

/-- 'm[k] = v' on the entries. -/
def mput (l : List Fl) (k v : ByteArray) : List Fl := if hit l k then l.map fun p => if p.1 = k then (k, v) else p else l ++ [(k, v)]

def mdel (l : List Fl) (k : ByteArray) : List Fl := l.filter fun p => decide (p.1 ≠ k)

theorem keys_mput {l : List Fl} (h : (keys l).Nodup) (k v : ByteArray) : (keys (mput l k v)).Nodup := by
  unfold mput
  split
  · have : keys (l.map fun p => if p.1 = k then (k, v) else p) = keys l := by
      unfold keys
      rw [List.map_map]
      apply List.map_congr_left
      intro p _
      by_cases e : p.1 = k <;> simp [e]
    rw [this]; exact h
  · rename_i hh
    have : k ∉ keys l := by
      intro h1
      apply hh
      unfold hit
      cases hl : look l k with
      | none => rw [look_none] at hl; exact absurd h1 hl
      | some v => rfl
    unfold keys at *
    rw [List.map_append, List.nodup_append]
    refine ⟨h, by simp, ?_⟩
    intro a ha b hb e
    simp at hb
    subst e; subst hb; exact this ha

theorem mem_mput {l : List Fl} (k v : ByteArray) (p : Fl) : p ∈ mput l k v ↔ p = (k, v) ∨ (p ∈ l ∧ p.1 ≠ k) := by
  unfold mput
  split
  · rename_i hh
    rw [List.mem_map]
    constructor
    · rintro ⟨q, hq, rfl⟩
      by_cases e : q.1 = k
      · simp [e]
      · simp only [e, if_false]; exact .inr ⟨hq, e⟩
    · rintro (rfl | ⟨h1, h2⟩)
      · unfold hit at hh
        obtain ⟨b, hb⟩ := Option.isSome_iff_exists.1 hh
        unfold look at hb
        simp at hb
        obtain ⟨a, ha⟩ := hb
        have h1 := List.find?_some ha
        have h2 := List.mem_of_find?_eq_some ha
        exact ⟨_, h2, by simp at h1; simp [h1]⟩
      · exact ⟨p, h1, by simp [h2]⟩
  · rename_i hh
    have : k ∉ keys l := by
      intro h1
      apply hh
      unfold hit
      cases hl : look l k with
      | none => rw [look_none] at hl; exact absurd h1 hl
      | some v => rfl
    rw [List.mem_append]
    constructor
    · rintro (h | h)
      · exact .inr ⟨h, fun e => this (List.mem_map.2 ⟨p, h, e⟩)⟩
      · simp at h; exact .inl h
    · rintro (h | h)
      · exact .inr (by simp [h])
      · exact .inl h.1

theorem mput_perm {l S : List Fl} (hl : (keys l).Nodup) (hS : Rising S) (h : l.Perm S) (k v : ByteArray) : (mput l k v).Perm (ins S k v) := by
  refine (List.perm_ext_iff_of_nodup (nodup_of_keys (keys_mput hl k v)) (nodup_of_keys (ins_rising hS k v).nodup)).2 fun p => ?_
  rw [mem_mput, mem_ins hS, h.mem_iff]

theorem keys_mdel {l : List Fl} (h : (keys l).Nodup) (k : ByteArray) : (keys (mdel l k)).Nodup :=
  List.Pairwise.sublist (List.Sublist.map _ List.filter_sublist) h

theorem mdel_perm {l S : List Fl} (hl : (keys l).Nodup) (hS : Rising S) (h : l.Perm S) (k : ByteArray) : (mdel l k).Perm (del S k) := by
  refine (List.perm_ext_iff_of_nodup (nodup_of_keys (keys_mdel hl k)) (nodup_of_keys (del_rising hS k).nodup)).2 fun p => ?_
  rw [mem_del hS, ← h.mem_iff]
  simp [mdel]

theorem hit_perm {l S : List Fl} (hl : (keys l).Nodup) (h : l.Perm S) (k : ByteArray) : hit l k = hit S k := by
  unfold hit; rw [look_perm hl h]

/-- What is sorted by path is the rising list. -/
theorem rising_of_sorted {l : List Fl} (h : (keys l).Nodup) (hs : l.Pairwise fun p q => plt q.1 p.1 = false) : Rising l := by
  unfold Rising
  have h' : l.Pairwise fun p q => p.1 ≠ q.1 := by
    unfold keys List.Nodup at h
    rw [List.pairwise_map] at h; exact h
  exact (hs.and h').imp fun ⟨h1, h2⟩ => by
    rcases plt_total h2 with h3 | h3
    · exact h3
    · rw [h1] at h3; cases h3

/-! ### loading a list -/

/-- Does Load take the files? -/
def fits (l : List Fl) : Prop := Rising l ∧ ∀ p ∈ l, p.2.size ≤ 65536

theorem ins_snoc {S : List Fl} {k v : ByteArray} (h : ∀ p ∈ S, plt p.1 k = true) : ins S k v = S ++ [(k, v)] := by
  have hi : idx S k = S.length := by
    unfold idx
    rw [takeWhile_all (by simpa using h)]
  have hh : hit S k = false := by
    unfold hit
    cases hl : look S k with
    | none => rfl
    | some b =>
      unfold look at hl
      simp at hl
      obtain ⟨a, ha⟩ := hl
      have h1 := List.find?_some ha
      have h2 := List.mem_of_find?_eq_some ha
      have h3 := h _ h2
      simp at h1
      rw [h1, plt_irrefl] at h3; cases h3
  unfold ins
  rw [hi, hh]
  simp

theorem rising_snoc {l : List Fl} {n : Nat} (h : n < l.length) (hS : Rising l) : ∀ p ∈ l.take n, plt p.1 l[n].1 = true := by
  intro p hp
  obtain ⟨j, hj, rfl⟩ := List.mem_iff_getElem.1 hp
  simp at hj
  simp only [List.getElem_take]
  exact (List.pairwise_iff_getElem.1 hS) j n (by omega) h (by omega)

/-- Neighbours rise: all rise. -/
theorem rising_of_next {l : List Fl} (h : ∀ i (h1 : i + 1 < l.length), plt l[i].1 l[i + 1].1 = true) : Rising l := by
  unfold Rising
  rw [List.pairwise_iff_getElem]
  intro i j hi hj hij
  induction j with
  | zero => omega
  | succ j ih =>
    by_cases e : i = j
    · subst e; exact h i hj
    · exact plt_trans (ih (by omega) (by omega)) (h j hj)

end Go.Proofs.Ytpmlmpibpmoclaa
