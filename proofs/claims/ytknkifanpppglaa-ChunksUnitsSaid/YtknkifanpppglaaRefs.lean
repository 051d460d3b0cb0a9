/- Laws of a chunk's references (a list that rises by tenant). Plain Lean. -/
import Derived.Test.YtknkifanpppglaaPure
namespace Go.Proofs.Ytknkifanpppglaa

abbrev Rising (r : List (Int × Int)) : Prop := r.Pairwise (fun x y => x.1 < y.1)

theorem filter_lt_all {r : List (Int × Int)} {t : Int} (h : ∀ x ∈ r, t < x.1) : r.filter (fun x => decide (x.1 < t)) = [] ∧ r.filter (fun x => decide (t < x.1)) = r := by
  constructor
  · rw [List.filter_eq_nil_iff]; intro x hx; have := h x hx; simp; omega
  · rw [List.filter_eq_self]; intro x hx; have := h x hx; simpa using this

/-- a rising list parted at t -/
theorem part_refs {r : List (Int × Int)} (h : Rising r) (t : Int) :
    (heldL r t = 0 ∧ (∀ x ∈ r, x.1 ≠ t) ∧ r = r.filter (fun x => decide (x.1 < t)) ++ r.filter (fun x => decide (t < x.1))) ∨
    (∃ n, heldL r t = n ∧ (t, n) ∈ r ∧ r = r.filter (fun x => decide (x.1 < t)) ++ ((t, n) :: r.filter (fun x => decide (t < x.1)))) := by
  induction r with
  | nil => left; simp [heldL]
  | cons a r ih =>
    obtain ⟨a1, a2⟩ := a
    have ha := (List.pairwise_cons.1 h).1
    have hr := (List.pairwise_cons.1 h).2
    rcases Int.lt_trichotomy a1 t with h1 | h1 | h1
    · have e1 : (decide (a1 < t)) = true := by simpa using h1
      have e2 : (decide (t < a1)) = false := by simp; omega
      have e3 : (a1 == t) = false := by simp; omega
      have eh : heldL ((a1, a2) :: r) t = heldL r t := by simp [heldL, e3]
      have ef1 : ((a1, a2) :: r).filter (fun x => decide (x.1 < t)) = (a1, a2) :: r.filter (fun x => decide (x.1 < t)) := by simp [e1]
      have ef2 : ((a1, a2) :: r).filter (fun x => decide (t < x.1)) = r.filter (fun x => decide (t < x.1)) := by
        rw [List.filter_cons, if_neg (by simp; omega)]
      rw [eh, ef1, ef2]
      rcases ih hr with ⟨h2, h3, h4⟩ | ⟨n, h2, h3, h4⟩
      · left; refine ⟨h2, ?_, ?_⟩
        · intro x hx; rcases List.mem_cons.1 hx with rfl | hx
          · simp; omega
          · exact h3 x hx
        · rw [List.cons_append, ← h4]
      · right; refine ⟨n, h2, List.mem_cons_of_mem _ h3, ?_⟩
        rw [List.cons_append, ← h4]
    · subst h1
      right
      have hf := filter_lt_all (t := a1) (r := r) (fun x hx => ha x hx)
      refine ⟨a2, by simp [heldL], by simp, ?_⟩
      rw [List.filter_cons, if_neg (by simp), List.filter_cons, if_neg (by simp), hf.1, hf.2]
      rfl
    · left
      have hall : ∀ x ∈ (a1, a2) :: r, t < x.1 := by
        intro x hx; rcases List.mem_cons.1 hx with rfl | hx
        · exact h1
        · have := ha x hx; omega
      have hf := filter_lt_all hall
      refine ⟨?_, fun x hx => by have := hall x hx; omega, by rw [hf.1, hf.2]; rfl⟩
      unfold heldL
      rw [List.find?_eq_none.2]
      · rfl
      · intro x hx; have := hall x hx; simp; omega

theorem rising_with {r : List (Int × Int)} (h : Rising r) (t n : Int) : Rising (withL r t n) := by
  unfold withL Rising
  rw [List.pairwise_append]
  refine ⟨h.filter _, ?_, ?_⟩
  · split
    · rw [List.singleton_append, List.pairwise_cons]
      exact ⟨fun x hx => by simpa using (List.mem_filter.1 hx).2, h.filter _⟩
    · simpa using h.filter _
  · intro x hx y hy
    have h1 : x.1 < t := by simpa using (List.mem_filter.1 hx).2
    have h2 : t ≤ y.1 := by
      rcases List.mem_append.1 hy with hy | hy
      · split at hy
        · simp at hy; subst hy; simp
        · simp at hy
      · have : t < y.1 := by simpa using (List.mem_filter.1 hy).2
        omega
    omega

theorem total_append (a b : List (Int × Int)) : totalL (a ++ b) = totalL a + totalL b := by simp [totalL]

theorem total_with {r : List (Int × Int)} (h : Rising r) (t n : Int) (hn : 0 ≤ n) : totalL (withL r t n) = totalL r - heldL r t + n := by
  have e : totalL (withL r t n) = totalL (r.filter (fun x => decide (x.1 < t))) + (n + totalL (r.filter (fun x => decide (t < x.1)))) := by
    unfold withL
    rw [total_append, total_append]
    congr 2
    split
    · simp [totalL]
    · have : n = 0 := by omega
      simp [totalL, this]
  rw [e]
  rcases part_refs h t with ⟨h1, _, h3⟩ | ⟨m, h1, _, h3⟩
  · have := congrArg totalL h3
    rw [total_append] at this
    omega
  · have := congrArg totalL h3
    rw [total_append] at this
    have e2 : totalL ((t, m) :: r.filter (fun x => decide (t < x.1))) = m + totalL (r.filter (fun x => decide (t < x.1))) := by simp [totalL]
    rw [e2] at this
    omega

theorem mem_with {r : List (Int × Int)} {t n : Int} {x : Int × Int} (hx : x ∈ withL r t n) : x ∈ r ∨ (x = (t, n) ∧ 0 < n) := by
  unfold withL at hx
  rcases List.mem_append.1 hx with hx | hx
  · exact .inl (List.mem_filter.1 hx).1
  · rcases List.mem_append.1 hx with hx | hx
    · split at hx
      · simp at hx; exact .inr ⟨hx, by assumption⟩
      · simp at hx
    · exact .inl (List.mem_filter.1 hx).1

theorem with_ne {r : List (Int × Int)} {t n : Int} (hn : 0 < n) : withL r t n ≠ [] := by
  unfold withL
  rw [if_pos hn]
  simp

theorem heldL_of_filter_lt {r : List (Int × Int)} {t t' : Int} : heldL (r.filter (fun x => decide (x.1 < t))) t' = if t' < t then heldL r t' else 0 := by
  induction r with
  | nil => simp [heldL]
  | cons a r ih =>
    rw [List.filter_cons]
    by_cases h : a.1 < t
    · rw [if_pos (by simpa using h)]
      by_cases h2 : a.1 = t'
      · simp [heldL, h2]; intro h3; omega
      · have e : (a.1 == t') = false := by simpa using h2
        have e1 : ∀ q : List (Int × Int), heldL (a :: q) t' = heldL q t' := fun q => by simp [heldL, e]
        rw [e1, e1, ih]
    · rw [if_neg (by simpa using h), ih]
      by_cases h2 : t' < t
      · rw [if_pos h2, if_pos h2]
        have e : (a.1 == t') = false := by simp; omega
        simp [heldL, e]
      · rw [if_neg h2, if_neg h2]

theorem heldL_of_filter_gt {r : List (Int × Int)} {t t' : Int} : heldL (r.filter (fun x => decide (t < x.1))) t' = if t < t' then heldL r t' else 0 := by
  induction r with
  | nil => simp [heldL]
  | cons a r ih =>
    rw [List.filter_cons]
    by_cases h : t < a.1
    · rw [if_pos (by simpa using h)]
      by_cases h2 : a.1 = t'
      · simp [heldL, h2]; intro h3; omega
      · have e : (a.1 == t') = false := by simpa using h2
        have e1 : ∀ q : List (Int × Int), heldL (a :: q) t' = heldL q t' := fun q => by simp [heldL, e]
        rw [e1, e1, ih]
    · rw [if_neg (by simpa using h), ih]
      by_cases h2 : t < t'
      · rw [if_pos h2, if_pos h2]
        have e : (a.1 == t') = false := by simp; omega
        simp [heldL, e]
      · rw [if_neg h2, if_neg h2]

theorem heldL_append {a b : List (Int × Int)} {t : Int} (h : (∀ x ∈ a, x.1 ≠ t)) : heldL (a ++ b) t = heldL b t := by
  unfold heldL
  rw [List.find?_append, List.find?_eq_none.2]
  · simp
  · intro x hx; simpa using h x hx

theorem heldL_append' {a b : List (Int × Int)} {t : Int} (h : (∀ x ∈ b, x.1 ≠ t)) : heldL (a ++ b) t = heldL a t := by
  unfold heldL
  rw [List.find?_append]
  cases hf : a.find? (fun x => x.1 == t) with
  | some y => simp
  | none =>
    rw [List.find?_eq_none.2]
    · simp
    · intro x hx; simpa using h x hx

theorem held_with {r : List (Int × Int)} (t n t' : Int) (hn : 0 ≤ n) : heldL (withL r t n) t' = if t' = t then n else heldL r t' := by
  unfold withL
  by_cases h : t' = t
  · subst h
    rw [if_pos rfl, heldL_append (by intro x hx; have : x.1 < t' := by simpa using (List.mem_filter.1 hx).2
                                     omega)]
    rw [heldL_append' (by intro x hx; have : t' < x.1 := by simpa using (List.mem_filter.1 hx).2
                          omega)]
    split
    · simp [heldL]
    · simp [heldL]; omega
  · rw [if_neg h]
    have hmid : ∀ x ∈ (if n > 0 then [(t, n)] else []), x.1 ≠ t' := by
      intro x hx; split at hx
      · simp at hx; subst hx; exact fun e => h e.symm
      · simp at hx
    rcases Int.lt_trichotomy t' t with h1 | h1 | h1
    · rw [heldL_append' (by
        intro x hx; rcases List.mem_append.1 hx with hx | hx
        · exact hmid x hx
        · have : t < x.1 := by simpa using (List.mem_filter.1 hx).2
          omega), heldL_of_filter_lt, if_pos h1]
    · exact absurd h1 h
    · rw [heldL_append (by intro x hx; have : x.1 < t := by simpa using (List.mem_filter.1 hx).2
                           omega), heldL_append hmid, heldL_of_filter_gt, if_pos h1]

theorem held_bounds {r : List (Int × Int)} (hp : ∀ x ∈ r, 1 ≤ x.2) (t : Int) : 0 ≤ heldL r t ∧ heldL r t ≤ totalL r := by
  induction r with
  | nil => simp [heldL, totalL]
  | cons a r ih =>
    have h0 := hp a (by simp)
    have hr := ih (fun x hx => hp x (by simp [hx]))
    have ht : 0 ≤ totalL r := by omega
    have e : totalL (a :: r) = a.2 + totalL r := by simp [totalL]
    by_cases h2 : a.1 = t
    · have : heldL (a :: r) t = a.2 := by simp [heldL, h2]
      omega
    · have e3 : (a.1 == t) = false := by simpa using h2
      have : heldL (a :: r) t = heldL r t := by simp [heldL, e3]
      omega

theorem rising_ge {r : List (Int × Int)} (h : Rising r) (h0 : ∀ x ∈ r, 0 ≤ x.1) : ∀ (k : Nat) (x : Int × Int), r[k]? = some x → (k : Int) ≤ x.1 := by
  intro k
  induction k with
  | zero => intro x hx; have := h0 x (List.mem_of_getElem? hx); omega
  | succ k ih =>
    intro x hx
    have hlt := (List.getElem?_eq_some_iff.1 hx).1
    have h1 := ih r[k] (List.getElem?_eq_getElem (by omega))
    have h2 := List.pairwise_iff_getElem.1 h k (k + 1) (by omega) hlt (by omega)
    have h3 : r[k + 1] = x := (List.getElem?_eq_some_iff.1 hx).2
    rw [h3] at h2
    omega

theorem CkOk.len {c : Ck} (h : CkOk c) : c.refs.length ≤ 16 := by
  rcases Nat.lt_or_ge 16 c.refs.length with hl | hl
  · have h1 := rising_ge h.refs (fun x hx => (h.ref1 x hx).1) 16 c.refs[16] (List.getElem?_eq_getElem hl)
    have h2 := (h.ref1 c.refs[16] (List.getElem_mem hl)).2.1
    omega
  · exact hl

end Go.Proofs.Ytknkifanpppglaa
