/- The operations keep the table's invariant, and the map of units stays in step. Plain lists. -/
import Derived.Test.YtknkifanpppglaaMap
namespace Go.Proofs.Ytknkifanpppglaa

theorem get_set {l : List Ck} {k : Nat} {c c' : Ck} (hk : l[k]? = some c) (j : Nat) : (l.set k c')[j]? = if j = k then some c' else l[j]? := by
  have hlt := (List.getElem?_eq_some_iff.1 hk).1
  rw [List.getElem?_set]
  by_cases h : k = j
  · subst h; simp [hlt]
  · rw [if_neg h, if_neg (fun e => h e.symm)]

theorem inv_at {l : List Ck} : Inv l ↔ (∀ (i j : Nat) (a b : Ck), i < j → l[i]? = some a → l[j]? = some b → a.id < b.id) ∧ (∀ (j : Nat) (c : Ck), l[j]? = some c → CkOk c) ∧ (∀ (i j : Nat) (a b : Ck), i ≠ j → l[i]? = some a → l[j]? = some b → a.lost = false → b.lost = false → a.pos ≠ b.pos) := by
  constructor
  · intro h
    refine ⟨fun i j a b hij ha hb => ids_lt h ha hb hij, fun j c hc => h.each c (List.mem_of_getElem? hc), fun i j a b hij ha hb h1 h2 e => ?_⟩
    have e1 := List.getElem?_eq_some_iff.1 ha
    have e2 := List.getElem?_eq_some_iff.1 hb
    rcases Nat.lt_or_gt_of_ne hij with h3 | h3
    · have := List.pairwise_iff_getElem.1 h.uniq i j e1.1 e2.1 h3
      rw [e1.2, e2.2] at this
      exact this h1 h2 e
    · have := List.pairwise_iff_getElem.1 h.uniq j i e2.1 e1.1 h3
      rw [e1.2, e2.2] at this
      exact this h2 h1 e.symm
  · rintro ⟨h1, h2, h3⟩
    refine ⟨List.pairwise_iff_getElem.2 fun i j hi hj hij => h1 i j _ _ hij (List.getElem?_eq_getElem hi) (List.getElem?_eq_getElem hj), fun c hc => ?_, List.pairwise_iff_getElem.2 fun i j hi hj hij => h3 i j _ _ (by omega) (List.getElem?_eq_getElem hi) (List.getElem?_eq_getElem hj)⟩
    obtain ⟨j, hj, rfl⟩ := List.getElem_of_mem hc
    exact h2 j _ (List.getElem?_eq_getElem hj)

theorem inv_set {l : List Ck} (h : Inv l) {k : Nat} {c c' : Ck} (hk : l[k]? = some c) (hid : c'.id = c.id) (hok : CkOk c')
    (hu : c'.lost = false → ∀ (j : Nat) (d : Ck), j ≠ k → l[j]? = some d → d.lost = false → d.pos ≠ c'.pos) : Inv (l.set k c') := by
  obtain ⟨h1, h2, h3⟩ := inv_at.1 h
  refine inv_at.2 ⟨fun i j a b hij ha hb => ?_, fun j d hd => ?_, fun i j a b hij ha hb e1 e2 => ?_⟩
  · rw [get_set hk] at ha hb
    split at ha <;> split at hb
    · omega
    · cases ha; rename_i e _; subst e; rw [hid]; exact h1 _ _ _ _ hij hk hb
    · cases hb; rename_i e; subst e; rw [hid]; exact h1 _ _ _ _ hij ha hk
    · exact h1 _ _ _ _ hij ha hb
  · rw [get_set hk] at hd
    split at hd
    · cases hd; exact hok
    · exact h2 _ _ hd
  · rw [get_set hk] at ha hb
    split at ha <;> split at hb
    · omega
    · cases ha; rename_i hne; exact fun e => hu e1 j b hne hb e2 e.symm
    · cases hb; rename_i hne _; exact hu e2 i a hne ha e1
    · exact h3 _ _ _ _ hij ha hb e1 e2

theorem atU_iff {l : List Ck} (h : Inv l) {u : U3} {i : Int} : atU l u = some i ↔ ∃ (j : Nat) (c : Ck), l[j]? = some c ∧ c.lost = false ∧ c.pos = u ∧ c.id = i := by
  unfold atU
  rw [Option.map_eq_some_iff]
  constructor
  · rintro ⟨c, hc, rfl⟩
    have hm := List.mem_of_find?_eq_some hc
    have hp := List.find?_some hc
    obtain ⟨j, hj, rfl⟩ := List.getElem_of_mem hm
    simp at hp
    exact ⟨j, _, List.getElem?_eq_getElem hj, hp.1, hp.2, rfl⟩
  · rintro ⟨j, c, hj, h1, h2, rfl⟩
    cases hf : l.find? (fun c => !c.lost && c.pos == u) with
    | none =>
      have := List.find?_eq_none.1 hf c (List.mem_of_getElem? hj)
      simp [h1, h2] at this
    | some d =>
      have hm := List.mem_of_find?_eq_some hf
      have hp := List.find?_some hf
      obtain ⟨i, hi, rfl⟩ := List.getElem_of_mem hm
      simp at hp
      refine ⟨_, rfl, ?_⟩
      by_cases e : i = j
      · subst e; rw [List.getElem?_eq_getElem hi] at hj; cases hj; rfl
      · exact absurd (hp.2.trans h2.symm) ((inv_at.1 h).2.2 i j _ _ e (List.getElem?_eq_getElem hi) hj hp.1 h1)

def Agree (M : List (U3 × Int)) (l : List Ck) : Prop := ∀ u, mget M u = atU l u

/-- the map after leave -/
def mleave (M : List (U3 × Int)) (c : Ck) : List (U3 × Int) := if c.lost then M else mdel M c.pos

theorem opt_ext {a b : Option Int} (h : ∀ i, a = some i ↔ b = some i) : a = b := by
  cases a with
  | none =>
    cases b with
    | none => rfl
    | some y => exact absurd ((h y).2 rfl) (by simp)
  | some x => exact ((h x).1 rfl).symm

theorem mget_leave {M : List (U3 × Int)} {l : List Ck} (hn : (M.map (·.1)).Nodup) (ha : Agree M l) (h : Inv l) {k : Nat} {c : Ck} (hk : l[k]? = some c) (u : U3) (i : Int) :
    mget (mleave M c) u = some i ↔ ∃ (j : Nat) (d : Ck), j ≠ k ∧ l[j]? = some d ∧ d.lost = false ∧ d.pos = u ∧ d.id = i := by
  have hu := (inv_at.1 h).2.2
  unfold mleave
  cases hl : c.lost with
  | true =>
    rw [if_pos rfl, ha u, atU_iff h]
    constructor
    · rintro ⟨j, d, h1, h2, h3⟩
      exact ⟨j, d, (fun e => by subst e; rw [h1] at hk; cases hk; rw [hl] at h2; exact absurd h2 (by simp)), h1, h2, h3⟩
    · rintro ⟨j, d, _, h1, h2, h3⟩
      exact ⟨j, d, h1, h2, h3⟩
  | false =>
    rw [if_neg (by simp), mget_del hn]
    constructor
    · intro h1
      split at h1
      · cases h1
      · rename_i hne
        rw [ha u, atU_iff h] at h1
        obtain ⟨j, d, h2, h3, h4, h5⟩ := h1
        exact ⟨j, d, (fun e => by subst e; rw [h2] at hk; cases hk; exact hne h4.symm), h2, h3, h4, h5⟩
    · rintro ⟨j, d, hne, h1, h2, h3, h4⟩
      rw [if_neg (fun e => hu j k d c hne h1 hk h2 hl (h3.trans e)), ha u, atU_iff h]
      exact ⟨j, d, h1, h2, h3, h4⟩

theorem agree_lose {M : List (U3 × Int)} {l : List Ck} (hn : (M.map (·.1)).Nodup) (ha : Agree M l) (h : Inv l) {k : Nat} {c : Ck} (hk : l[k]? = some c) (hi : Inv (l.set k { c with pos := zeroU, lost := true })) :
    Agree (mleave M c) (l.set k { c with pos := zeroU, lost := true }) := by
  intro u
  apply opt_ext
  intro i
  rw [mget_leave hn ha h hk, atU_iff hi]
  constructor
  · rintro ⟨j, d, hne, h1, h2⟩
    exact ⟨j, d, by rw [get_set hk, if_neg hne]; exact h1, h2⟩
  · rintro ⟨j, d, h1, h2, h3⟩
    rw [get_set hk] at h1
    split at h1
    · cases h1; simp at h2
    · exact ⟨j, d, by assumption, h1, h2, h3⟩

theorem agree_move {M : List (U3 × Int)} {l : List Ck} (hn : (M.map (·.1)).Nodup) (ha : Agree M l) (h : Inv l) {k : Nat} {c : Ck} {v : U3} (hk : l[k]? = some c) (hi : Inv (l.set k { c with pos := v, lost := false })) :
    Agree (mset (mleave M c) v c.id) (l.set k { c with pos := v, lost := false }) := by
  intro u
  apply opt_ext
  intro i
  rw [mget_set, atU_iff hi]
  by_cases huv : u = v
  · subst huv
    rw [if_pos rfl]
    constructor
    · rintro e; cases e; exact ⟨k, ({ c with pos := u, lost := false } : Ck), by rw [get_set hk, if_pos rfl], rfl, rfl, rfl⟩
    · rintro ⟨j, d, h1, h2, h3, h4⟩
      by_cases e : j = k
      · subst e; rw [get_set hk, if_pos rfl] at h1; cases h1; rw [← h4]
      · have := (inv_at.1 hi).2.2 j k d _ e h1 (by rw [get_set hk, if_pos rfl]) h2 rfl
        exact absurd h3 this
  · rw [if_neg huv, mget_leave hn ha h hk]
    constructor
    · rintro ⟨j, d, hne, h1, h2⟩
      exact ⟨j, d, by rw [get_set hk, if_neg hne]; exact h1, h2⟩
    · rintro ⟨j, d, h1, h2, h3, h4⟩
      rw [get_set hk] at h1
      split at h1
      · cases h1; exact absurd h3.symm huv
      · exact ⟨j, d, by assumption, h1, h2, h3, h4⟩

/-- a chunk's references are changed -/
theorem agree_refs {M : List (U3 × Int)} {l : List Ck} (ha : Agree M l) (h : Inv l) {k : Nat} {c : Ck} {r : List (Int × Int)} (hk : l[k]? = some c) (hi : Inv (l.set k { c with refs := r })) : Agree M (l.set k { c with refs := r }) := by
  intro u
  rw [ha u]
  apply opt_ext
  intro i
  rw [atU_iff h, atU_iff hi]
  constructor
  · rintro ⟨j, d, h1, h2⟩
    by_cases e : j = k
    · subst e; rw [hk] at h1; cases h1; exact ⟨j, ({ c with refs := r } : Ck), by rw [get_set hk, if_pos rfl], h2⟩
    · exact ⟨j, d, by rw [get_set hk, if_neg e]; exact h1, h2⟩
  · rintro ⟨j, d, h1, h2⟩
    rw [get_set hk] at h1
    split at h1
    · cases h1; exact ⟨k, c, hk, h2⟩
    · exact ⟨j, d, h1, h2⟩

theorem inv_lose {l : List Ck} (h : Inv l) {k : Nat} {c : Ck} (hk : l[k]? = some c) : Inv (l.set k { c with pos := zeroU, lost := true }) := by
  have hc := h.each c (List.mem_of_getElem? hk)
  exact inv_set h hk rfl ⟨hc.id1, hc.id2, hc.dig, hc.refs, hc.refsNe, hc.ref1, hc.tot, (fun e => by simp at e), fun _ => rfl⟩ (fun e => by simp at e)

theorem inv_move {l : List Ck} (h : Inv l) {k : Nat} {c : Ck} {u : U3} (hk : l[k]? = some c) (hok : u.ok = true) (hat : ∀ i, atU l u = some i → i = c.id) : Inv (l.set k { c with pos := u, lost := false }) := by
  have hc := h.each c (List.mem_of_getElem? hk)
  refine inv_set h hk rfl ⟨hc.id1, hc.id2, hc.dig, hc.refs, hc.refsNe, hc.ref1, hc.tot, fun _ => hok, (fun e => by simp at e)⟩ (fun _ j d hne hj hd e => ?_)
  have h1 : atU l u = some d.id := (atU_iff h).2 ⟨j, d, hj, hd, e, rfl⟩
  exact hne (ids_inj h hj hk (hat _ h1))

end Go.Proofs.Ytknkifanpppglaa
