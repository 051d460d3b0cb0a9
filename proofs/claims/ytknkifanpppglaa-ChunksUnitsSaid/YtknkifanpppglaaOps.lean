/- Scripts of operations on the table as a list: the invariant, and what each operation does to a tenant's count. Plain lists. -/
import Derived.Test.YtknkifanpppglaaInv
namespace Go.Proofs.Ytknkifanpppglaa

def opsL (l : List Ck) (s : List Opn) : List Ck := s.foldl (fun l o => (opL l o).1) l

theorem opsL_snoc (l : List Ck) (s : List Opn) (o : Opn) : opsL l (s ++ [o]) = (opL (opsL l s) o).1 := by simp [opsL]
theorem opsL_take (l : List Ck) (s : List Opn) (k : Nat) (o : Opn) (h : s[k]? = some o) : opsL l (s.take (k + 1)) = (opL (opsL l (s.take k)) o).1 := by
  have e := List.getElem?_eq_some_iff.1 h
  rw [List.take_succ_eq_append_getElem e.1, e.2, opsL_snoc]

theorem countL_cons (c : Ck) (l : List Ck) (t : Int) : countL (c :: l) t = heldL c.refs t + countL l t := by simp [countL]
theorem countL_append (a b : List Ck) (t : Int) : countL (a ++ b) t = countL a t + countL b t := by
  unfold countL; rw [List.map_append, List.sum_append_int]

theorem countL_at {l : List Ck} {k : Nat} {c : Ck} (h : l[k]? = some c) (t : Int) : countL l t = countL (l.take k) t + (heldL c.refs t + countL (l.drop (k + 1)) t) := by
  have e := List.getElem?_eq_some_iff.1 h
  conv => lhs; rw [← List.take_append_drop k l, List.drop_eq_getElem_cons e.1, e.2]
  rw [countL_append, countL_cons]

theorem countL_set {l : List Ck} {k : Nat} {c c' : Ck} (h : l[k]? = some c) (t : Int) : countL (l.set k c') t = countL l t - heldL c.refs t + heldL c'.refs t := by
  have e := List.getElem?_eq_some_iff.1 h
  have e2 : (l.set k c')[k]? = some c' := by rw [List.getElem?_set]; simp [e.1]
  rw [countL_at e2 t, countL_at h t, List.take_set_of_le (Nat.le_refl k), List.drop_set_of_lt (by omega)]
  omega

theorem countL_erase {l : List Ck} {k : Nat} {c : Ck} (h : l[k]? = some c) (t : Int) : countL (l.eraseIdx k) t = countL l t - heldL c.refs t := by
  rw [countL_at h t, List.eraseIdx_eq_take_drop_succ, countL_append]
  omega

theorem countL_out {l : List Ck} (h : ∀ c ∈ l, CkOk c) {t : Int} (ht : t < 0 ∨ 16 ≤ t) : countL l t = 0 := by
  induction l with
  | nil => rfl
  | cons c l ih =>
    rw [countL_cons, ih (fun x hx => h x (by simp [hx]))]
    have hc := h c (by simp)
    have : heldL c.refs t = 0 := by
      unfold heldL
      rw [List.find?_eq_none.2]
      · rfl
      · intro x hx
        have := hc.ref1 x hx
        simp; omega
    omega

/-- what an operation without an error adds to the count of its tenant -/
def gainO (o : Opn) : Int := if o.kind = 1 then 1 else if o.kind = 2 then o.n else if o.kind = 3 then -o.n else 0

theorem argsBad_no {t n : Int} (h : argsBad t n = false) : 0 ≤ t ∧ t < 16 ∧ 1 ≤ n ∧ n ≤ most := by
  unfold argsBad tenB at h
  simp at h
  omega

theorem count_add (l : List Ck) (d : List Int) (p : Int) (u : U3) (t t' : Int) :
    ((addL l d p u t).2.2 = 0 → 0 ≤ t ∧ t < 16 ∧ countL (addL l d p u t).1 t' = countL l t' + if t' = t then 1 else 0) ∧ ((addL l d p u t).2.2 ≠ 0 → (addL l d p u t).1 = l) := by
  unfold addL
  split
  · simp
  · rename_i h1
    split
    · simp
    · split
      · simp
      · simp only [ne_eq, not_true_eq_false, false_implies, and_true, true_implies]
        have ht : tenB t = true := by revert h1; cases tenB t <;> simp
        unfold tenB at ht
        simp at ht
        refine ⟨ht.1, ht.2, ?_⟩
        rw [countL_append, countL_cons]
        conv => rhs; rw [← List.take_append_drop (slot l) l]
        rw [countL_append]
        have : heldL [(t, 1)] t' = if t' = t then 1 else 0 := by
          unfold heldL
          by_cases h : t' = t
          · subst h; simp
          · rw [if_neg h]; simp [Ne.symm h]
        rw [this]
        omega

theorem count_refer {l : List Ck} (h : Inv l) (id t n t' : Int) :
    ((referL l id t n).2 = 0 → 0 ≤ t ∧ t < 16 ∧ countL (referL l id t n).1 t' = countL l t' + if t' = t then n else 0) ∧ ((referL l id t n).2 ≠ 0 → (referL l id t n).1 = l) := by
  unfold referL
  split
  · simp
  · split
    · simp
    · rename_i hb
      split
      · simp
      · rename_i c hc
        split
        · simp
        · simp only [ne_eq, not_true_eq_false, false_implies, and_true, true_implies]
          have ha := argsBad_no (by simpa using hb)
          have hok := h.each c (List.mem_of_getElem? hc)
          have hh := held_bounds (fun x hx => (hok.ref1 x hx).2.2) t
          refine ⟨ha.1, ha.2.1, ?_⟩
          rw [countL_set hc, held_with _ _ _ (by omega)]
          split
          · rename_i e; subst e; omega
          · omega

theorem withL_nil {r : List (Int × Int)} {t n : Int} (hn : 0 ≤ n) (h : withL r t n = []) (t' : Int) : (if t' = t then n else heldL r t') = 0 := by
  rw [← held_with t n t' hn, h]; rfl

theorem count_unrefer {l : List Ck} (id t n t' : Int) :
    ((unreferL l id t n).2.2 = 0 → 0 ≤ t ∧ t < 16 ∧ countL (unreferL l id t n).1 t' = countL l t' - if t' = t then n else 0) ∧ ((unreferL l id t n).2.2 ≠ 0 → (unreferL l id t n).1 = l) := by
  unfold unreferL
  split
  · simp
  · split
    · simp
    · rename_i hb
      split
      · simp
      · rename_i c hc
        have ha := argsBad_no (by simpa using hb)
        split
        · simp
        · rename_i hn
          split
          · simp only [ne_eq, not_true_eq_false, false_implies, and_true, true_implies]
            refine ⟨ha.1, ha.2.1, ?_⟩
            rw [countL_set hc, held_with _ _ _ (by omega)]
            split
            · rename_i e; subst e; omega
            · omega
          · rename_i hne
            simp only [ne_eq, not_true_eq_false, false_implies, and_true, true_implies]
            refine ⟨ha.1, ha.2.1, ?_⟩
            have he := withL_nil (r := c.refs) (t := t) (n := heldL c.refs t - n) (by omega) (by simpa using hne) t'
            rw [countL_erase hc]
            split at he
            · rename_i e; subst e; rw [if_pos rfl]; omega
            · rename_i e; rw [if_neg e]; omega

theorem count_move {l : List Ck} (id : Int) (u : U3) (t' : Int) : countL (moveL l id u).1 t' = countL l t' := by
  unfold moveL
  split
  · rfl
  · split
    · rfl
    · split
      · rfl
      · split
        · rfl
        · rename_i c hc
          rw [countL_set hc]; simp

theorem count_lose {l : List Ck} (id : Int) (t' : Int) : countL (loseL l id).1 t' = countL l t' := by
  unfold loseL
  split
  · rfl
  · split
    · rfl
    · rename_i c hc
      rw [countL_set hc]; simp

/-- the count of a tenant after an operation -/
theorem count_op {l : List Ck} (h : Inv l) (o : Opn) (t' : Int) :
    countL (opL l o).1 t' = countL l t' + if (opL l o).2.2 = 0 ∧ t' = o.tenant then gainO o else 0 := by
  unfold opL gainO
  split
  · have := count_add l (digOf o.d) o.print o.pos o.tenant t'
    by_cases e : (addL l (digOf o.d) o.print o.pos o.tenant).2.2 = 0
    · rw [(this.1 e).2.2]; simp [e]
    · rw [this.2 e]; simp [e]
  · split
    · have := count_refer h o.id o.tenant o.n t'
      by_cases e : (referL l o.id o.tenant o.n).2 = 0
      · rw [(this.1 e).2.2]; simp [e]
      · rw [this.2 e]; simp [e]
    · split
      · have := count_unrefer (l := l) o.id o.tenant o.n t'
        by_cases e : (unreferL l o.id o.tenant o.n).2.2 = 0
        · simp only [(this.1 e).2.2, e, true_and]
          split <;> omega
        · simp only [this.2 e, e, false_and, if_false]; omega
      · split
        · simp only [count_move]; split <;> omega
        · split
          · simp only [count_lose]; split <;> omega
          · simp

/-- the tenant of an operation that changes a count is a tenant -/
theorem op_tenant {l : List Ck} (h : Inv l) (o : Opn) (he : (opL l o).2.2 = 0) (hk : o.kind = 1 ∨ o.kind = 2 ∨ o.kind = 3) : 0 ≤ o.tenant ∧ o.tenant < 16 := by
  unfold opL at he
  rcases hk with hk | hk | hk
  · rw [if_pos hk] at he
    have := (count_add l (digOf o.d) o.print o.pos o.tenant 0).1 he
    exact ⟨this.1, this.2.1⟩
  · rw [if_neg (by omega), if_pos hk] at he
    have := (count_refer h o.id o.tenant o.n 0).1 he
    exact ⟨this.1, this.2.1⟩
  · rw [if_neg (by omega), if_neg (by omega), if_pos hk] at he
    have := (count_unrefer (l := l) o.id o.tenant o.n 0).1 he
    exact ⟨this.1, this.2.1⟩

end Go.Proofs.Ytknkifanpppglaa
