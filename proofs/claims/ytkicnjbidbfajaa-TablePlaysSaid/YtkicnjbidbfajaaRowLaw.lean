/- What is in the rows behind a put, a take-away: plain. -/
import Derived.Test.YtkicnjbidbfajaaRow
namespace Go.Proofs.Ytkicnjbidbfajaa
set_option linter.unusedVariables false
set_option linter.unusedSimpArgs false
theorem has_iff (l : List Rw) (k : Int) : has l k = true ↔ ∃ m ∈ l, m.1 = k := by
  simp [has]
theorem up_inj {l : List Rw} (hU : Up l) {i j : Nat} (hi : i < l.length) (hj : j < l.length) (h : l[i].1 = l[j].1) : i = j := by
  rcases Nat.lt_trichotomy i j with c | c | c
  · have := up_lt hU i j hj c; omega
  · exact c
  · have := up_lt hU j i hi c; omega
theorem get_of_mem {l : List Rw} (hU : Up l) {m : Rw} (h : m ∈ l) : getL l m.1 = m.2 := by
  have hh : has l m.1 = true := (has_iff l m.1).2 ⟨m, h, rfl⟩
  obtain ⟨hp, hk⟩ := has_lt hU hh
  obtain ⟨t, ht, rfl⟩ := List.getElem_of_mem h
  have e := up_inj hU hp ht hk
  unfold getL
  rw [if_pos hh, List.getD_eq_getElem?_getD, e]
  simp [ht]
theorem get_none {l : List Rw} {k : Int} (h : has l k = false) : getL l k = ByteArray.empty := by simp [getL, h]
theorem mem_put {l : List Rw} (hU : Up l) (k : Int) (v : ByteArray) (x : Rw) : x ∈ putL l k v ↔ x = (k, v) ∨ (x ∈ l ∧ x.1 ≠ k) := by
  unfold putL
  cases hh : has l k with
  | true =>
    obtain ⟨hp, hk⟩ := has_lt hU hh
    simp only [if_true]
    constructor
    · intro h
      obtain ⟨t, ht, hx⟩ := List.getElem_of_mem h
      rw [List.length_set] at ht
      rw [List.getElem_set] at hx
      split at hx
      · exact .inl hx.symm
      · rename_i hne
        subst hx
        refine .inr ⟨List.getElem_mem ht, fun e => hne ?_⟩
        exact up_inj hU hp ht (by rw [hk, e])
    · rintro (rfl | ⟨h, hne⟩)
      · exact List.mem_set hp _
      · obtain ⟨t, ht, rfl⟩ := List.getElem_of_mem h
        have : pos l k ≠ t := by
          rintro rfl
          exact hne hk
        have e : (l.set (pos l k) (k, v))[t]'(by rw [List.length_set]; exact ht) = l[t] := by rw [List.getElem_set, if_neg this]
        rw [← e]
        exact List.getElem_mem _
  | false =>
    have hno : ∀ m ∈ l, m.1 ≠ k := fun m hm e => by
      have := (has_iff l k).2 ⟨m, hm, e⟩
      rw [hh] at this; cases this
    have hl : ∀ x, x ∈ l ↔ x ∈ l.take (pos l k) ∨ x ∈ l.drop (pos l k) := fun x => by rw [← List.mem_append, List.take_append_drop]
    simp only [Bool.false_eq_true, if_false, List.mem_append, List.mem_cons]
    constructor
    · rintro (h | h | h)
      · have := (hl x).2 (.inl h)
        exact .inr ⟨this, hno x this⟩
      · exact .inl h
      · have := (hl x).2 (.inr h)
        exact .inr ⟨this, hno x this⟩
    · rintro (h | ⟨h, _⟩)
      · exact .inr (.inl h)
      · rcases (hl x).1 h with h | h
        · exact .inl h
        · exact .inr (.inr h)
theorem get_put {l : List Rw} (hU : Up l) (k k' : Int) (v : ByteArray) : has (putL l k v) k' = (k == k' || has l k') ∧ getL (putL l k v) k' = if k = k' then v else getL l k' := by
  have hU2 := up_put hU k v
  by_cases e : k = k'
  · subst e
    have hm : (k, v) ∈ putL l k v := (mem_put hU k v _).2 (.inl rfl)
    refine ⟨?_, ?_⟩
    · rw [(has_iff _ k).2 ⟨_, hm, rfl⟩]; simp
    · rw [if_pos rfl]
      exact get_of_mem hU2 hm
  · rw [if_neg e]
    cases hh : has l k' with
    | true =>
      obtain ⟨m, hm, rfl⟩ := (has_iff l k').1 hh
      have hm2 : m ∈ putL l k v := (mem_put hU k v _).2 (.inr ⟨hm, fun h => e h.symm⟩)
      refine ⟨?_, ?_⟩
      · rw [(has_iff _ _).2 ⟨_, hm2, rfl⟩]; simp
      · rw [get_of_mem hU2 hm2, get_of_mem hU hm]
    | false =>
      have hf : has (putL l k v) k' = false := by
        cases hc : has (putL l k v) k' with
        | false => rfl
        | true =>
          obtain ⟨m, hm, rfl⟩ := (has_iff _ _).1 hc
          rcases (mem_put hU k v m).1 hm with rfl | ⟨hm, _⟩
          · exact absurd rfl e
          · rw [(has_iff l m.1).2 ⟨m, hm, rfl⟩] at hh; cases hh
      refine ⟨by rw [hf]; simp [e], by rw [get_none hf, get_none hh]⟩
/-- all of them put in, one behind the other -/
def putAll (a : List Rw) : List Rw := a.foldl (fun l x => putL l x.1 x.2) []
theorem putAll_take (a : List Rw) (j : Nat) (h : j < a.length) : putAll (a.take (j + 1)) = putL (putAll (a.take j)) a[j].1 a[j].2 := by
  unfold putAll
  rw [List.take_succ_eq_append_getElem h, List.foldl_append]; rfl
theorem up_all (a : List Rw) : Up (putAll a) := by
  suffices ∀ (a l : List Rw), Up l → Up (a.foldl (fun l x => putL l x.1 x.2) l) from this a [] List.Pairwise.nil
  intro a
  induction a with
  | nil => intro l h; exact h
  | cons x a ih => intro l h; exact ih _ (up_put h _ _)
theorem all_len (a : List Rw) : (putAll a).length ≤ a.length := by
  suffices ∀ (a l : List Rw), Up l → (a.foldl (fun l x => putL l x.1 x.2) l).length ≤ l.length + a.length from by simpa [putAll] using this a [] List.Pairwise.nil
  intro a
  induction a with
  | nil => intro l h; simp
  | cons x a ih =>
    intro l h
    have h1 := ih _ (up_put h x.1 x.2)
    have h2 := put_len h x.1 x.2
    simp only [List.foldl_cons, List.length_cons] at *
    omega
/-- the last text of that key among the first n rows -/
def lastV (a : List Rw) (k : Int) (n : Nat) : ByteArray := (a.take n).foldl (fun s x => if x.1 = k then x.2 else s) ByteArray.empty
theorem lastV_succ (a : List Rw) (k : Int) (n : Nat) (h : n < a.length) : lastV a k (n + 1) = if a[n].1 = k then a[n].2 else lastV a k n := by
  unfold lastV
  rw [List.take_succ_eq_append_getElem h, List.foldl_append]; rfl
theorem get_all (a : List Rw) (k : Int) : has (putAll a) k = a.any (fun x => x.1 == k) ∧ getL (putAll a) k = lastV a k a.length := by
  suffices ∀ (a l : List Rw) (s : ByteArray), Up l → getL l k = s → has (a.foldl (fun l x => putL l x.1 x.2) l) k = (has l k || a.any (fun x => x.1 == k)) ∧ getL (a.foldl (fun l x => putL l x.1 x.2) l) k = a.foldl (fun s x => if x.1 = k then x.2 else s) s from by
    have := this a [] ByteArray.empty List.Pairwise.nil (get_none rfl)
    unfold lastV
    rw [List.take_length]
    exact ⟨by simpa [putAll, has] using this.1, this.2⟩
  intro a
  induction a with
  | nil => intro l s h hg; simp [hg]
  | cons x a ih =>
    intro l s h hg
    have h1 := get_put h x.1 k x.2
    have h2 := ih (putL l x.1 x.2) (if x.1 = k then x.2 else s) (up_put h _ _) (by rw [h1.2, hg])
    simp only [List.foldl_cons, List.any_cons]
    refine ⟨?_, h2.2⟩
    rw [h2.1, h1.1]
    cases has l k <;> cases (x.1 == k) <;> simp
end Go.Proofs.Ytkicnjbidbfajaa
