/- Laws of the table of chunks as a list. Plain Lean. -/
import Derived.Test.YtknkifanpppglaaSpec
namespace Go.Proofs.Ytknkifanpppglaa

theorem ids_ge {l : List Ck} (h : Inv l) : ∀ (k : Nat) (c : Ck), l[k]? = some c → (k : Int) + 1 ≤ c.id := by
  intro k
  induction k with
  | zero => intro c hc; have := (h.each c (List.mem_of_getElem? hc)).id1; omega
  | succ k ih =>
    intro c hc
    have hlt := (List.getElem?_eq_some_iff.1 hc).1
    have h1 := ih l[k] (List.getElem?_eq_getElem (by omega))
    have h2 := List.pairwise_iff_getElem.1 h.ids k (k + 1) (by omega) hlt (by omega)
    have h3 : l[k + 1] = c := (List.getElem?_eq_some_iff.1 hc).2
    rw [h3] at h2
    omega

theorem inv_len {l : List Ck} (h : Inv l) : l.length ≤ 65536 := by
  rcases Nat.lt_or_ge 65536 l.length with hl | hl
  · have h1 := ids_ge h 65536 l[65536] (List.getElem?_eq_getElem hl)
    have h2 := (h.each l[65536] (List.getElem_mem hl)).id2
    omega
  · exact hl

theorem ids_lt {l : List Ck} (h : Inv l) {i j : Nat} {a b : Ck} (hi : l[i]? = some a) (hj : l[j]? = some b) (hij : i < j) : a.id < b.id := by
  have h1 := List.getElem?_eq_some_iff.1 hi
  have h2 := List.getElem?_eq_some_iff.1 hj
  have := List.pairwise_iff_getElem.1 h.ids i j h1.1 h2.1 hij
  rw [h1.2, h2.2] at this
  exact this

theorem ids_inj {l : List Ck} (h : Inv l) {i j : Nat} {a b : Ck} (hi : l[i]? = some a) (hj : l[j]? = some b) (he : a.id = b.id) : i = j := by
  rcases Nat.lt_trichotomy i j with h1 | h1 | h1
  · have := ids_lt h hi hj h1; omega
  · exact h1
  · have := ids_lt h hj hi h1; omega

theorem idxOf_some {l : List Ck} {id : Int} {k : Nat} : idxOf l id = some k ↔ ∃ c, l[k]? = some c ∧ c.id = id ∧ ∀ j d, j < k → l[j]? = some d → d.id ≠ id := by
  unfold idxOf
  rw [List.findIdx?_eq_some_iff_getElem]
  constructor
  · rintro ⟨hk, h1, h2⟩
    refine ⟨l[k], List.getElem?_eq_getElem hk, by simpa using h1, fun j d hj hd => ?_⟩
    have h3 := List.getElem?_eq_some_iff.1 hd
    have := h2 j hj
    rw [h3.2] at this
    simpa using this
  · rintro ⟨c, hc, h1, h2⟩
    have h3 := List.getElem?_eq_some_iff.1 hc
    have h4 : k < l.length := h3.1
    refine ⟨h3.1, by rw [h3.2]; simpa using h1, fun j hj => ?_⟩
    simpa using h2 j _ hj (List.getElem?_eq_getElem (by omega))

theorem idxOf_none {l : List Ck} {id : Int} : idxOf l id = none ↔ ∀ c ∈ l, c.id ≠ id := by
  unfold idxOf
  rw [List.findIdx?_eq_none_iff]
  simp

theorem idxOf_at {l : List Ck} (h : Inv l) {k : Nat} {c : Ck} (hk : l[k]? = some c) : idxOf l c.id = some k := by
  rw [idxOf_some]
  refine ⟨c, hk, rfl, fun j d hj hd => ?_⟩
  have := ids_lt h hd hk hj
  omega

/-- what a binary search finds -/
theorem idxOf_cut {l : List Ck} (id : Int) (k : Nat) (h1 : ∀ j c, j < k → l[j]? = some c → c.id < id) (h2 : ∀ j c, k ≤ j → l[j]? = some c → id ≤ c.id) (h : Inv l) :
    (∀ c, l[k]? = some c → c.id = id → idxOf l id = some k) ∧ ((∀ c, l[k]? = some c → c.id ≠ id) → idxOf l id = none) := by
  constructor
  · intro c hc he; subst he; exact idxOf_at h hc
  · intro hn
    rw [idxOf_none]
    intro c hc he
    obtain ⟨j, hj, rfl⟩ := List.getElem_of_mem hc
    have hj' : l[j]? = some l[j] := List.getElem?_eq_getElem hj
    rcases Nat.lt_trichotomy j k with h3 | h3 | h3
    · have := h1 j _ h3 hj'; omega
    · subst h3; exact hn _ hj' he
    · have hk : k < l.length := by omega
      have := h2 k l[k] (Nat.le_refl _) (List.getElem?_eq_getElem hk)
      have h5 := ids_lt h (List.getElem?_eq_getElem hk) hj' h3
      omega

theorem getC_idx {l : List Ck} {id : Int} : getC l id = (idxOf l id).bind (fun k => l[k]?) := by
  unfold getC idxOf
  rw [List.find?_eq_bind_findIdx?_getElem?]

end Go.Proofs.Ytknkifanpppglaa
