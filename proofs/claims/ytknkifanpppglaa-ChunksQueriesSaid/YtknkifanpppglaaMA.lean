/- The table of chunks as a list: what each operation of the chapter computes. Plain Lean: no program, no memory. -/
import Derived.WalkKit
import Derived.Lib.Hide
import Derived.Laws.CopyOwn
import Derived.Deep.Draws
import Derived.Test.YtknkifanpppglaaProg
import Derived.KernelRfl
namespace Go.Proofs.Ytknkifanpppglaa

structure U3 where
  row : Int
  group : Int
  unit : Int
  deriving DecidableEq

structure Ck where
  id : Int
  dig : List Int
  print : Int
  pos : U3
  lost : Bool
  refs : List (Int × Int)
  deriving DecidableEq

structure Opn where
  kind : Int
  id : Int
  tenant : Int
  n : Int
  pos : U3
  d : Int
  print : Int

def zeroU : U3 := ⟨0, 0, 0⟩
def U3.ok (u : U3) : Bool := decide (0 ≤ u.row) && decide (u.row < 4096) && (decide (0 ≤ u.group) && decide (u.group < 64)) && (decide (0 ≤ u.unit) && decide (u.unit < 32))
def tenB (t : Int) : Bool := decide (0 ≤ t) && decide (t < 16)
def most : Int := 2147483647

def idxOf (l : List Ck) (id : Int) : Option Nat := l.findIdx? (fun c => c.id == id)
def getC (l : List Ck) (id : Int) : Option Ck := l.find? (fun c => c.id == id)
def atU (l : List Ck) (u : U3) : Option Int := (l.find? (fun c => !c.lost && c.pos == u)).map (·.id)
def liveL (l : List Ck) (row group : Int) : List Int := (List.range 32).filterMap (fun (n : Nat) => atU l ⟨row, group, (n : Int)⟩)
def lostL (l : List Ck) (d : List Int) : List Int := (l.filter (fun c => c.lost && c.dig == d)).map (·.id)
def heldL (r : List (Int × Int)) (t : Int) : Int := ((r.find? (fun x => x.1 == t)).map (·.2)).getD 0
def totalL (r : List (Int × Int)) : Int := (r.map (·.2)).sum
def withL (r : List (Int × Int)) (t n : Int) : List (Int × Int) :=
  r.filter (fun x => decide (x.1 < t)) ++ ((if n > 0 then [(t, n)] else []) ++ r.filter (fun x => decide (t < x.1)))
def countL (l : List Ck) (t : Int) : Int := (l.map (fun c => heldL c.refs t)).sum

/-- the first place k whose Id is not k + 1 -/
def slotFrom : List Ck → Nat → Nat
  | [], k => k
  | c :: r, k => if c.id = (k : Int) + 1 then slotFrom r (k + 1) else k
def slot (l : List Ck) : Nat := slotFrom l 0

def addL (l : List Ck) (d : List Int) (p : Int) (u : U3) (t : Int) : List Ck × Int × Int :=
  if !u.ok || !tenB t then (l, 0, 1) else
  if (atU l u).isSome then (l, 0, 20) else
  if 65536 ≤ l.length then (l, 0, 2) else
  (l.take (slot l) ++ (⟨(slot l : Int) + 1, d, p, u, false, [(t, 1)]⟩ :: l.drop (slot l)), (slot l : Int) + 1, 0)

def argsBad (t n : Int) : Bool := !tenB t || decide (n < 1) || decide (most < n)
def setAt (l : List Ck) (k : Nat) (f : Ck → Ck) : List Ck := l.modify k f

def referL (l : List Ck) (id t n : Int) : List Ck × Int :=
  match idxOf l id with
  | none => (l, 12)
  | some k =>
    if argsBad t n then (l, 1) else
    match l[k]? with
    | none => (l, 12)
    | some c => if totalL c.refs + n > most then (l, 2) else (l.set k { c with refs := withL c.refs t (heldL c.refs t + n) }, 0)

def unreferL (l : List Ck) (id t n : Int) : List Ck × Bool × Int :=
  match idxOf l id with
  | none => (l, false, 12)
  | some k =>
    if argsBad t n then (l, false, 1) else
    match l[k]? with
    | none => (l, false, 12)
    | some c =>
      if heldL c.refs t - n < 0 then (l, false, 12) else
      if withL c.refs t (heldL c.refs t - n) ≠ [] then (l.set k { c with refs := withL c.refs t (heldL c.refs t - n) }, false, 0) else
      (l.eraseIdx k, true, 0)

def moveL (l : List Ck) (id : Int) (u : U3) : List Ck × Int :=
  match idxOf l id with
  | none => (l, 12)
  | some k =>
    if !u.ok then (l, 1) else
    if ((atU l u).map (fun o => decide (o ≠ id))).getD false then (l, 20) else
    match l[k]? with
    | none => (l, 12)
    | some c => (l.set k { c with pos := u, lost := false }, 0)

def loseL (l : List Ck) (id : Int) : List Ck × Int :=
  match idxOf l id with
  | none => (l, 12)
  | some k =>
    match l[k]? with
    | none => (l, 12)
    | some c => (l.set k { c with pos := zeroU, lost := true }, 0)

def digOf (d : Int) : List Int := List.replicate 16 d

def opL (l : List Ck) (o : Opn) : List Ck × Int × Int :=
  if o.kind = 1 then addL l (digOf o.d) o.print o.pos o.tenant else
  if o.kind = 2 then ((referL l o.id o.tenant o.n).1, 0, (referL l o.id o.tenant o.n).2) else
  if o.kind = 3 then ((unreferL l o.id o.tenant o.n).1, (if (unreferL l o.id o.tenant o.n).2.1 then 1 else 0), (unreferL l o.id o.tenant o.n).2.2) else
  if o.kind = 4 then ((moveL l o.id o.pos).1, 0, (moveL l o.id o.pos).2) else
  if o.kind = 5 then ((loseL l o.id).1, 0, (loseL l o.id).2) else
  (l, 0, 0)

/-- The table's invariant: Ids rise from 1; references rise by tenant; units are valid and no two chunks have one. -/
structure CkOk (c : Ck) : Prop where
  id1 : 1 ≤ c.id
  id2 : c.id ≤ 65536
  dig : c.dig.length = 16
  refs : c.refs.Pairwise (fun x y => x.1 < y.1)
  refsNe : c.refs ≠ []
  ref1 : ∀ x ∈ c.refs, 0 ≤ x.1 ∧ x.1 < 16 ∧ 1 ≤ x.2
  tot : totalL c.refs ≤ most
  pos : c.lost = false → c.pos.ok = true
  gone : c.lost = true → c.pos = zeroU

structure Inv (l : List Ck) : Prop where
  ids : l.Pairwise (fun a b => a.id < b.id)
  each : ∀ c ∈ l, CkOk c
  uniq : l.Pairwise (fun a b => a.lost = false → b.lost = false → a.pos ≠ b.pos)

end Go.Proofs.Ytknkifanpppglaa

/- Laws of the table of chunks as a list. Plain Lean. -/
namespace Go.Proofs.Ytknkifanpppglaa

theorem ids_ge {l : List Ck} (h : Inv l) : ∀ (k : Nat) (c : Ck), l[k]? = some c → (k : Int) + 1 ≤ c.id := by
  intro k
  induction k with
  | zero => intro c hc; have := (h.each c (List.mem_of_getElem? hc)).id1; omega
  | succ k ih =>
    intro c hc
    have hlt := (List.getElem?_eq_some_iff.1 hc).1
    have h1 := ih l[k] (List.getElem?_eq_getElem (by omega))
    have h2 := List.pairwise_iff_getElem.1 h.ids k (k + 1) (by omega) hlt (by omega)
    have h3 : l[k + 1] = c := (List.getElem?_eq_some_iff.1 hc).2
    rw [h3] at h2
    omega

theorem inv_len {l : List Ck} (h : Inv l) : l.length ≤ 65536 := by
  rcases Nat.lt_or_ge 65536 l.length with hl | hl
  · have h1 := ids_ge h 65536 l[65536] (List.getElem?_eq_getElem hl)
    have h2 := (h.each l[65536] (List.getElem_mem hl)).id2
    omega
  · exact hl

theorem ids_lt {l : List Ck} (h : Inv l) {i j : Nat} {a b : Ck} (hi : l[i]? = some a) (hj : l[j]? = some b) (hij : i < j) : a.id < b.id := by
  have h1 := List.getElem?_eq_some_iff.1 hi
  have h2 := List.getElem?_eq_some_iff.1 hj
  have := List.pairwise_iff_getElem.1 h.ids i j h1.1 h2.1 hij
  rw [h1.2, h2.2] at this
  exact this

theorem ids_inj {l : List Ck} (h : Inv l) {i j : Nat} {a b : Ck} (hi : l[i]? = some a) (hj : l[j]? = some b) (he : a.id = b.id) : i = j := by
  rcases Nat.lt_trichotomy i j with h1 | h1 | h1
  · have := ids_lt h hi hj h1; omega
  · exact h1
  · have := ids_lt h hj hi h1; omega

theorem idxOf_some {l : List Ck} {id : Int} {k : Nat} : idxOf l id = some k ↔ ∃ c, l[k]? = some c ∧ c.id = id ∧ ∀ j d, j < k → l[j]? = some d → d.id ≠ id := by
  unfold idxOf
  rw [List.findIdx?_eq_some_iff_getElem]
  constructor
  · rintro ⟨hk, h1, h2⟩
    refine ⟨l[k], List.getElem?_eq_getElem hk, by simpa using h1, fun j d hj hd => ?_⟩
    have h3 := List.getElem?_eq_some_iff.1 hd
    have := h2 j hj
    rw [h3.2] at this
    simpa using this
  · rintro ⟨c, hc, h1, h2⟩
    have h3 := List.getElem?_eq_some_iff.1 hc
    have h4 : k < l.length := h3.1
    refine ⟨h3.1, by rw [h3.2]; simpa using h1, fun j hj => ?_⟩
    simpa using h2 j _ hj (List.getElem?_eq_getElem (by omega))

theorem idxOf_none {l : List Ck} {id : Int} : idxOf l id = none ↔ ∀ c ∈ l, c.id ≠ id := by
  unfold idxOf
  rw [List.findIdx?_eq_none_iff]
  simp

theorem idxOf_at {l : List Ck} (h : Inv l) {k : Nat} {c : Ck} (hk : l[k]? = some c) : idxOf l c.id = some k := by
  rw [idxOf_some]
  refine ⟨c, hk, rfl, fun j d hj hd => ?_⟩
  have := ids_lt h hd hk hj
  omega

/-- what a binary search finds -/
theorem idxOf_cut {l : List Ck} (id : Int) (k : Nat) (h1 : ∀ j c, j < k → l[j]? = some c → c.id < id) (h2 : ∀ j c, k ≤ j → l[j]? = some c → id ≤ c.id) (h : Inv l) :
    (∀ c, l[k]? = some c → c.id = id → idxOf l id = some k) ∧ ((∀ c, l[k]? = some c → c.id ≠ id) → idxOf l id = none) := by
  constructor
  · intro c hc he; subst he; exact idxOf_at h hc
  · intro hn
    rw [idxOf_none]
    intro c hc he
    obtain ⟨j, hj, rfl⟩ := List.getElem_of_mem hc
    have hj' : l[j]? = some l[j] := List.getElem?_eq_getElem hj
    rcases Nat.lt_trichotomy j k with h3 | h3 | h3
    · have := h1 j _ h3 hj'; omega
    · subst h3; exact hn _ hj' he
    · have hk : k < l.length := by omega
      have := h2 k l[k] (Nat.le_refl _) (List.getElem?_eq_getElem hk)
      have h5 := ids_lt h (List.getElem?_eq_getElem hk) hj' h3
      omega

theorem getC_idx {l : List Ck} {id : Int} : getC l id = (idxOf l id).bind (fun k => l[k]?) := by
  unfold getC idxOf
  rw [List.find?_eq_bind_findIdx?_getElem?]

end Go.Proofs.Ytknkifanpppglaa

/- Laws of a chunk's references (a list that rises by tenant). Plain Lean. -/
namespace Go.Proofs.Ytknkifanpppglaa

abbrev Rising (r : List (Int × Int)) : Prop := r.Pairwise (fun x y => x.1 < y.1)

theorem filter_lt_all {r : List (Int × Int)} {t : Int} (h : ∀ x ∈ r, t < x.1) : r.filter (fun x => decide (x.1 < t)) = [] ∧ r.filter (fun x => decide (t < x.1)) = r := by
  constructor
  · rw [List.filter_eq_nil_iff]; intro x hx; have := h x hx; simp; omega
  · rw [List.filter_eq_self]; intro x hx; have := h x hx; simpa using this

/-- a rising list parted at t -/
theorem part_refs {r : List (Int × Int)} (h : Rising r) (t : Int) :
    (heldL r t = 0 ∧ (∀ x ∈ r, x.1 ≠ t) ∧ r = r.filter (fun x => decide (x.1 < t)) ++ r.filter (fun x => decide (t < x.1))) ∨
    (∃ n, heldL r t = n ∧ (t, n) ∈ r ∧ r = r.filter (fun x => decide (x.1 < t)) ++ ((t, n) :: r.filter (fun x => decide (t < x.1)))) := by
  induction r with
  | nil => left; simp [heldL]
  | cons a r ih =>
    obtain ⟨a1, a2⟩ := a
    have ha := (List.pairwise_cons.1 h).1
    have hr := (List.pairwise_cons.1 h).2
    rcases Int.lt_trichotomy a1 t with h1 | h1 | h1
    · have e1 : (decide (a1 < t)) = true := by simpa using h1
      have e2 : (decide (t < a1)) = false := by simp; omega
      have e3 : (a1 == t) = false := by simp; omega
      have eh : heldL ((a1, a2) :: r) t = heldL r t := by simp [heldL, e3]
      have ef1 : ((a1, a2) :: r).filter (fun x => decide (x.1 < t)) = (a1, a2) :: r.filter (fun x => decide (x.1 < t)) := by simp [e1]
      have ef2 : ((a1, a2) :: r).filter (fun x => decide (t < x.1)) = r.filter (fun x => decide (t < x.1)) := by
        rw [List.filter_cons, if_neg (by simp; omega)]
      rw [eh, ef1, ef2]
      rcases ih hr with ⟨h2, h3, h4⟩ | ⟨n, h2, h3, h4⟩
      · left; refine ⟨h2, ?_, ?_⟩
        · intro x hx; rcases List.mem_cons.1 hx with rfl | hx
          · simp; omega
          · exact h3 x hx
        · rw [List.cons_append, ← h4]
      · right; refine ⟨n, h2, List.mem_cons_of_mem _ h3, ?_⟩
        rw [List.cons_append, ← h4]
    · subst h1
      right
      have hf := filter_lt_all (t := a1) (r := r) (fun x hx => ha x hx)
      refine ⟨a2, by simp [heldL], by simp, ?_⟩
      rw [List.filter_cons, if_neg (by simp), List.filter_cons, if_neg (by simp), hf.1, hf.2]
      rfl
    · left
      have hall : ∀ x ∈ (a1, a2) :: r, t < x.1 := by
        intro x hx; rcases List.mem_cons.1 hx with rfl | hx
        · exact h1
        · have := ha x hx; omega
      have hf := filter_lt_all hall
      refine ⟨?_, fun x hx => by have := hall x hx; omega, by rw [hf.1, hf.2]; rfl⟩
      unfold heldL
      rw [List.find?_eq_none.2]
      · rfl
      · intro x hx; have := hall x hx; simp; omega

theorem rising_with {r : List (Int × Int)} (h : Rising r) (t n : Int) : Rising (withL r t n) := by
  unfold withL Rising
  rw [List.pairwise_append]
  refine ⟨h.filter _, ?_, ?_⟩
  · split
    · rw [List.singleton_append, List.pairwise_cons]
      exact ⟨fun x hx => by simpa using (List.mem_filter.1 hx).2, h.filter _⟩
    · simpa using h.filter _
  · intro x hx y hy
    have h1 : x.1 < t := by simpa using (List.mem_filter.1 hx).2
    have h2 : t ≤ y.1 := by
      rcases List.mem_append.1 hy with hy | hy
      · split at hy
        · simp at hy; subst hy; simp
        · simp at hy
      · have : t < y.1 := by simpa using (List.mem_filter.1 hy).2
        omega
    omega

theorem total_append (a b : List (Int × Int)) : totalL (a ++ b) = totalL a + totalL b := by simp [totalL]

theorem total_with {r : List (Int × Int)} (h : Rising r) (t n : Int) (hn : 0 ≤ n) : totalL (withL r t n) = totalL r - heldL r t + n := by
  have e : totalL (withL r t n) = totalL (r.filter (fun x => decide (x.1 < t))) + (n + totalL (r.filter (fun x => decide (t < x.1)))) := by
    unfold withL
    rw [total_append, total_append]
    congr 2
    split
    · simp [totalL]
    · have : n = 0 := by omega
      simp [totalL, this]
  rw [e]
  rcases part_refs h t with ⟨h1, _, h3⟩ | ⟨m, h1, _, h3⟩
  · have := congrArg totalL h3
    rw [total_append] at this
    omega
  · have := congrArg totalL h3
    rw [total_append] at this
    have e2 : totalL ((t, m) :: r.filter (fun x => decide (t < x.1))) = m + totalL (r.filter (fun x => decide (t < x.1))) := by simp [totalL]
    rw [e2] at this
    omega

theorem mem_with {r : List (Int × Int)} {t n : Int} {x : Int × Int} (hx : x ∈ withL r t n) : x ∈ r ∨ (x = (t, n) ∧ 0 < n) := by
  unfold withL at hx
  rcases List.mem_append.1 hx with hx | hx
  · exact .inl (List.mem_filter.1 hx).1
  · rcases List.mem_append.1 hx with hx | hx
    · split at hx
      · simp at hx; exact .inr ⟨hx, by assumption⟩
      · simp at hx
    · exact .inl (List.mem_filter.1 hx).1

theorem with_ne {r : List (Int × Int)} {t n : Int} (hn : 0 < n) : withL r t n ≠ [] := by
  unfold withL
  rw [if_pos hn]
  simp

theorem heldL_of_filter_lt {r : List (Int × Int)} {t t' : Int} : heldL (r.filter (fun x => decide (x.1 < t))) t' = if t' < t then heldL r t' else 0 := by
  induction r with
  | nil => simp [heldL]
  | cons a r ih =>
    rw [List.filter_cons]
    by_cases h : a.1 < t
    · rw [if_pos (by simpa using h)]
      by_cases h2 : a.1 = t'
      · simp [heldL, h2]; intro h3; omega
      · have e : (a.1 == t') = false := by simpa using h2
        have e1 : ∀ q : List (Int × Int), heldL (a :: q) t' = heldL q t' := fun q => by simp [heldL, e]
        rw [e1, e1, ih]
    · rw [if_neg (by simpa using h), ih]
      by_cases h2 : t' < t
      · rw [if_pos h2, if_pos h2]
        have e : (a.1 == t') = false := by simp; omega
        simp [heldL, e]
      · rw [if_neg h2, if_neg h2]

theorem heldL_of_filter_gt {r : List (Int × Int)} {t t' : Int} : heldL (r.filter (fun x => decide (t < x.1))) t' = if t < t' then heldL r t' else 0 := by
  induction r with
  | nil => simp [heldL]
  | cons a r ih =>
    rw [List.filter_cons]
    by_cases h : t < a.1
    · rw [if_pos (by simpa using h)]
      by_cases h2 : a.1 = t'
      · simp [heldL, h2]; intro h3; omega
      · have e : (a.1 == t') = false := by simpa using h2
        have e1 : ∀ q : List (Int × Int), heldL (a :: q) t' = heldL q t' := fun q => by simp [heldL, e]
        rw [e1, e1, ih]
    · rw [if_neg (by simpa using h), ih]
      by_cases h2 : t < t'
      · rw [if_pos h2, if_pos h2]
        have e : (a.1 == t') = false := by simp; omega
        simp [heldL, e]
      · rw [if_neg h2, if_neg h2]

theorem heldL_append {a b : List (Int × Int)} {t : Int} (h : (∀ x ∈ a, x.1 ≠ t)) : heldL (a ++ b) t = heldL b t := by
  unfold heldL
  rw [List.find?_append, List.find?_eq_none.2]
  · simp
  · intro x hx; simpa using h x hx

theorem heldL_append' {a b : List (Int × Int)} {t : Int} (h : (∀ x ∈ b, x.1 ≠ t)) : heldL (a ++ b) t = heldL a t := by
  unfold heldL
  rw [List.find?_append]
  cases hf : a.find? (fun x => x.1 == t) with
  | some y => simp
  | none =>
    rw [List.find?_eq_none.2]
    · simp
    · intro x hx; simpa using h x hx

theorem held_with {r : List (Int × Int)} (t n t' : Int) (hn : 0 ≤ n) : heldL (withL r t n) t' = if t' = t then n else heldL r t' := by
  unfold withL
  by_cases h : t' = t
  · subst h
    rw [if_pos rfl, heldL_append (by intro x hx; have : x.1 < t' := by simpa using (List.mem_filter.1 hx).2
                                     omega)]
    rw [heldL_append' (by intro x hx; have : t' < x.1 := by simpa using (List.mem_filter.1 hx).2
                          omega)]
    split
    · simp [heldL]
    · simp [heldL]; omega
  · rw [if_neg h]
    have hmid : ∀ x ∈ (if n > 0 then [(t, n)] else []), x.1 ≠ t' := by
      intro x hx; split at hx
      · simp at hx; subst hx; exact fun e => h e.symm
      · simp at hx
    rcases Int.lt_trichotomy t' t with h1 | h1 | h1
    · rw [heldL_append' (by
        intro x hx; rcases List.mem_append.1 hx with hx | hx
        · exact hmid x hx
        · have : t < x.1 := by simpa using (List.mem_filter.1 hx).2
          omega), heldL_of_filter_lt, if_pos h1]
    · exact absurd h1 h
    · rw [heldL_append (by intro x hx; have : x.1 < t := by simpa using (List.mem_filter.1 hx).2
                           omega), heldL_append hmid, heldL_of_filter_gt, if_pos h1]

theorem held_bounds {r : List (Int × Int)} (hp : ∀ x ∈ r, 1 ≤ x.2) (t : Int) : 0 ≤ heldL r t ∧ heldL r t ≤ totalL r := by
  induction r with
  | nil => simp [heldL, totalL]
  | cons a r ih =>
    have h0 := hp a (by simp)
    have hr := ih (fun x hx => hp x (by simp [hx]))
    have ht : 0 ≤ totalL r := by omega
    have e : totalL (a :: r) = a.2 + totalL r := by simp [totalL]
    by_cases h2 : a.1 = t
    · have : heldL (a :: r) t = a.2 := by simp [heldL, h2]
      omega
    · have e3 : (a.1 == t) = false := by simpa using h2
      have : heldL (a :: r) t = heldL r t := by simp [heldL, e3]
      omega

theorem rising_ge {r : List (Int × Int)} (h : Rising r) (h0 : ∀ x ∈ r, 0 ≤ x.1) : ∀ (k : Nat) (x : Int × Int), r[k]? = some x → (k : Int) ≤ x.1 := by
  intro k
  induction k with
  | zero => intro x hx; have := h0 x (List.mem_of_getElem? hx); omega
  | succ k ih =>
    intro x hx
    have hlt := (List.getElem?_eq_some_iff.1 hx).1
    have h1 := ih r[k] (List.getElem?_eq_getElem (by omega))
    have h2 := List.pairwise_iff_getElem.1 h k (k + 1) (by omega) hlt (by omega)
    have h3 : r[k + 1] = x := (List.getElem?_eq_some_iff.1 hx).2
    rw [h3] at h2
    omega

theorem CkOk.len {c : Ck} (h : CkOk c) : c.refs.length ≤ 16 := by
  rcases Nat.lt_or_ge 16 c.refs.length with hl | hl
  · have h1 := rising_ge h.refs (fun x hx => (h.ref1 x hx).1) 16 c.refs[16] (List.getElem?_eq_getElem hl)
    have h2 := (h.ref1 c.refs[16] (List.getElem_mem hl)).2.1
    omega
  · exact hl

end Go.Proofs.Ytknkifanpppglaa

/- Base lemmas about worlds: which blocks a step may change, rows of cells, slices that own their row. No program in this text. -/
namespace Go.Proofs.Ytknkifanpppglaa
open Go.RowKit

/-- Old blocks outside S are as they were. -/
structure Mod (S : List Nat) (w w' : World) : Prop where
  os : w'.os = w.os
  tape : w'.tape = w.tape
  output : w'.output = w.output
  size : w.heap.size ≤ w'.heap.size
  block : ∀ k, k < w.heap.size → k ∉ S → w'.heap[k]? = w.heap[k]?

theorem Mod.refl (S : List Nat) (w : World) : Mod S w w := ⟨rfl, rfl, rfl, Nat.le_refl _, fun _ _ _ => rfl⟩

theorem Mod.mono {S S' : List Nat} {w w' : World} (h : Mod S w w') (hs : ∀ k ∈ S, k ∈ S') : Mod S' w w' :=
  ⟨h.os, h.tape, h.output, h.size, fun k hk hn => h.block k hk (fun hm => hn (hs k hm))⟩

theorem Mod.nil {S : List Nat} {w w' : World} (h : Mod [] w w') : Mod S w w' := h.mono (by simp)

/-- Two steps; what the second may change lies in S or is new since the first began. -/
theorem Mod.trans {S S' : List Nat} {a b c : World} (h : Mod S a b) (k : Mod S' b c) (hs : ∀ x ∈ S', x ∈ S ∨ a.heap.size ≤ x) : Mod S a c :=
  ⟨k.os.trans h.os, k.tape.trans h.tape, k.output.trans h.output, Nat.le_trans h.size k.size, fun i hi hn =>
    (k.block i (Nat.lt_of_lt_of_le hi h.size) (fun hm => by
      rcases hs i hm with h1 | h1
      · exact hn h1
      · omega)).trans (h.block i hi hn)⟩

theorem Mod.trans_nil {S : List Nat} {a b c : World} (h : Mod S a b) (k : Mod [] b c) : Mod S a c := h.trans k (by simp)

theorem Mod.alloc {S : List Nat} {a w : World} (h : Mod S a w) (o : Obj) : Mod S a (w.alloc o) :=
  h.trans_nil ⟨rfl, rfl, rfl, by simp, fun k hk _ => Below.heap_alloc w o k hk⟩

theorem Mod.drew {S : List Nat} {a w : World} (h : Mod S a w) : Mod S a w.drew := h.trans_nil ⟨rfl, rfl, rfl, Nat.le_refl _, fun _ _ _ => rfl⟩
theorem Mod.drewN {S : List Nat} {a w : World} (h : Mod S a w) (n : Nat) : Mod S a (w.drewN n) := h.trans_nil ⟨rfl, rfl, rfl, Nat.le_refl _, fun _ _ _ => rfl⟩

theorem Mod.setCell {S : List Nat} {a w : World} (h : Mod S a w) (p : Addr) (v : Value) (hp : p.block ∈ S ∨ a.heap.size ≤ p.block) : Mod S a (w.setCell p v) :=
  h.trans (S' := [p.block]) ⟨rfl, rfl, rfl, by simp, fun k _ hk => heap_setCell_other w p k v (by simpa using hk)⟩ (by simpa using hp)

theorem Mod.setRow {S : List Nat} {a w : World} (h : Mod S a w) (g : Nat) (cs : Array Value) (hp : g ∈ S ∨ a.heap.size ≤ g) : Mod S a (w.setRow g cs) :=
  h.trans (S' := [g]) ⟨rfl, rfl, rfl, by simp, fun k _ hk => setRow_other w g k cs (by simpa using hk)⟩ (by simpa using hp)

theorem Mod.grown {S : List Nat} {a w w' : World} {row : Option Nat} (h : Mod S a w) (hg : w.grownBy w' row) (hr : ∀ k, row = some k → k ∈ S ∨ a.heap.size ≤ k) : Mod S a w' :=
  h.trans (S' := row.toList) ⟨hg.os, hg.tape, hg.output, hg.size, fun k hk hn => hg.block k hk (by cases row <;> simp_all)⟩ (by intro x hx; cases row <;> simp_all)

theorem Mod.below {a w : World} (h : Mod [] a w) : Below a.heap.size a w := ⟨h.os, h.tape, h.output, h.size, fun k hk => h.block k hk (by simp)⟩
theorem Mod.of_below {a w : World} (h : Below a.heap.size a w) : Mod [] a w := ⟨h.os, h.tape, h.output, h.size, fun k hk _ => h.block k hk⟩

theorem Mod.cell {S : List Nat} {w w' : World} (h : Mod S w w') {b o : Nat} {v : Value} (hc : w.cell? ⟨b, o, none⟩ = some v) (hb : b ∉ S) : w'.cell? ⟨b, o, none⟩ = some v := by
  have hlt := Go.block_lt_of_cell hc
  rw [World.cell?_of_block (w := w) (h.block b hlt hb)]; exact hc

theorem Mod.heap {S : List Nat} {w w' : World} (h : Mod S w w') {b : Nat} {o : Obj} (hc : w.heap[b]? = some o) (hb : b ∉ S) : w'.heap[b]? = some o := by
  rw [h.block b (Array.getElem?_eq_some_iff.1 hc).1 hb]; exact hc

theorem lt_of_heap {w : World} {b : Nat} {o : Obj} (hc : w.heap[b]? = some o) : b < w.heap.size := (Array.getElem?_eq_some_iff.1 hc).1

/-- The cells from ⟨b, off⟩ on are cs. -/
def Row (w : World) (b off : Nat) (cs : List Value) : Prop := ∀ j u, cs[j]? = some u → w.cell? ⟨b, off + j, none⟩ = some u

theorem Row.mod {S : List Nat} {w w' : World} (h : Mod S w w') {b off : Nat} {cs : List Value} (hr : Row w b off cs) (hb : b ∉ S) : Row w' b off cs :=
  fun j u hu => h.cell (hr j u hu) hb

theorem Row.at {w : World} {b off : Nat} {cs : List Value} (hr : Row w b off cs) (j : Nat) (u : Value) (hu : cs[j]? = some u) : w.cell? ⟨b, off + j, none⟩ = some u := hr j u hu
theorem Row.at0 {w : World} {b off : Nat} {cs : List Value} (hr : Row w b off cs) (u : Value) (hu : cs[0]? = some u) : w.cell? ⟨b, off, none⟩ = some u := hr 0 u hu

theorem Row.of_heap {w : World} {b : Nat} {cs : List Value} {t : TypeId} {fr : Nat × Nat} (h : w.heap[b]? = some (.cells cs.toArray t fr)) : Row w b 0 cs := by
  intro j u hu
  rw [cell_of_row w b (0 + j) _ t fr h]
  simpa using hu

theorem addr_add (b o j : Nat) : (⟨b, o, none⟩ : Addr).add j = ⟨b, o + j, none⟩ := by unfold Addr.add; split <;> simp_all

theorem run_loadVar_at {P : Program} (w : World) (b off : Nat) (ty : TypeId) (cs : List Value) (d : TypeDesc) (hr : Row w b off cs)
    (hu : P.underlying ty = some d) (hd : (match d with | .struct _ | .array _ _ => true | _ => false) = true) (hi : (P.info? ty).map (·.size) = some cs.length) :
    (loadVar ty ⟨b, off, none⟩).run P w = .ok (.agg cs.toArray) w := by
  have hl : (loadCells ⟨b, off, none⟩ cs.length).run P w = .ok cs.toArray w :=
    run_loadCells_list (P := P) w ⟨b, off, none⟩ cs (fun j v hv => by rw [addr_add]; exact hr j v hv)
  cases hq : P.info? ty with
  | none => simp [hq] at hi
  | some i =>
    have hs : i.size = cs.length := by simpa [hq] using hi
    have hagg : (isAgg ty).run P w = .ok true w := by
      unfold isAgg
      rw [Sem.run_bind, run_underlying hu w]
      cases d <;> simp_all
    simp [loadVar, Sem.run_bind, hagg, sizeOf, typeInfo, hq, hs, hl]

theorem wpList_wanted {P : Program} {ops : Array Oper} {rest : List Oper} {o : Oper} {a : Act} {w : World} {Q : Exit → Act → World → Prop} (hw : Region.wanted o (yielded ops a.tmps) = true)
    (h : ∀ K : Act → World → Prop, (∀ a w, wpList P ops Q rest a w → K a w) → o.wp P a w K Q) : wpList P ops Q (o :: rest) a w :=
  wpList_step fun K hK => by rw [if_pos hw]; exact h K hK

/-- A struct or an array is read whole. -/
theorem wpList_load_at {P : Program} {ops : Array Oper} {rest : List Oper} {o : Oper} {a : Act} {w : World} {Q : Exit → Act → World → Prop} (hw : Region.wanted o (yielded ops a.tmps) = true) (ty : TypeId) (x : Operand) (ho : o.op = .load ty x)
    (d : TypeDesc) (hu : P.underlying ty = some d) (hd : (match d with | .struct _ | .array _ _ => true | _ => false) = true) (n : Nat) (hi : (P.info? ty).map (·.size) = some n)
    (b off : Nat) (cs : List Value) (hx : a.eval x = .pointer (some ⟨b, off, none⟩)) (hr : Row w b off cs) (hn : cs.length = n)
    (h : wpList P ops Q rest (a.put o.dst (.agg cs.toArray)) w) : wpList P ops Q (o :: rest) a w :=
  wpList_wanted hw fun _ hK => by
    unfold Oper.wp execOp
    simp only [ho, hx, Instr.loadAt, Instr.sureAddr, Sem.run_bind, Sem.run_pure, Result.andThen_ok, run_loadVar_at w b off ty cs d hr hu hd (by rw [hi, hn])]
    exact hK _ _ h

theorem oneCell_mem {cs : List Value} (h : ∀ u ∈ cs, u.oneCell' = true) : ∀ u ∈ cs, u.oneCell' = true := h

theorem run_storeVar_at {P : Program} (w : World) (b off : Nat) (ty t : TypeId) (cur cs : List Value) (hb : w.heap[b]? = some (.cells cur.toArray t (0, 0)))
    (hi : (P.info? ty).map (·.size) = some cs.length) (h1 : ∀ u ∈ cs, u.oneCell' = true) (hf : off + cs.length ≤ cur.length) :
    (storeVar ty ⟨b, off, none⟩ (.agg cs.toArray)).run P w = .ok () (w.setRow b (splice cur off cs).toArray) := by
  cases hq : P.info? ty with
  | none => simp [hq] at hi
  | some i =>
    have hs : i.size = cs.length := by simpa [hq] using hi
    have hst := run_storeCells_at (P := P) b off t cs 0 cur.toArray w hb (by simpa using hf) h1
    simp [storeVar, Sem.run_bind, sizeOf, typeInfo, hq, hs, Value.cells]
    simpa [splice] using hst

/-- A struct or an array is stored whole into a block that is known whole. -/
theorem wpList_store_at {P : Program} {ops : Array Oper} {rest : List Oper} {o : Oper} {a : Act} {w : World} {Q : Exit → Act → World → Prop} (hw : Region.wanted o (yielded ops a.tmps) = true) (ty : TypeId) (x v : Operand) (ho : o.op = .store ty x v)
    (n : Nat) (hi : (P.info? ty).map (·.size) = some n) (b off : Nat) (t : TypeId) (cur cs : List Value) (hx : a.eval x = .pointer (some ⟨b, off, none⟩)) (hv : a.eval v = .agg cs.toArray)
    (hb : w.heap[b]? = some (.cells cur.toArray t (0, 0))) (hn : cs.length = n) (h1 : ∀ u ∈ cs, u.oneCell' = true) (hf : off + cs.length ≤ cur.length)
    (h : ∀ w', w'.heap[b]? = some (.cells (splice cur off cs).toArray t (0, 0)) → Mod [b] w w' → wpList P ops Q rest (a.put o.dst undef) w') : wpList P ops Q (o :: rest) a w :=
  wpList_wanted hw fun _ hK => by
    unfold Oper.wp execOp
    simp only [ho, hx, hv, Instr.storeAt, Instr.sureAddr, Sem.run_bind, Sem.run_pure, Result.andThen_ok, run_storeVar_at w b off ty t cur cs hb (by rw [hi, hn]) h1 hf]
    exact hK _ _ (h _ (setRow_heap w b _ _ t _ hb) ((Mod.refl _ _).setRow _ _ (by simp)))

/-- A one-cell value is stored into a block that is known whole. -/
theorem wpList_store1 {P : Program} {ops : Array Oper} {rest : List Oper} {o : Oper} {a : Act} {w : World} {Q : Exit → Act → World → Prop} (hw : Region.wanted o (yielded ops a.tmps) = true) (ty : TypeId) (x v : Operand) (ho : o.op = .store ty x v)
    (hi : (P.info? ty).map (·.size) = some 1) (b off : Nat) (t : TypeId) (cur : List Value) (u : Value) (hx : a.eval x = .pointer (some ⟨b, off, none⟩)) (hv : a.eval v = u)
    (hb : w.heap[b]? = some (.cells cur.toArray t (0, 0))) (h1 : u.oneCell' = true) (hf : off < cur.length)
    (h : ∀ w', w'.heap[b]? = some (.cells (cur.set off u).toArray t (0, 0)) → Mod [b] w w' → wpList P ops Q rest (a.put o.dst undef) w') : wpList P ops Q (o :: rest) a w :=
  wpList_wanted hw fun _ hK => by
    have hs : splice cur off [u] = cur.set off u := by
      simp only [splice, List.length_singleton, List.singleton_append]
      rw [List.set_eq_take_append_cons_drop, if_pos hf]
    have hst := run_storeCells_at (P := P) b off t [u] 0 cur.toArray w hb (by simp; omega) (by simpa using h1)
    have hc : u.cells = #[u] := by cases u <;> first | rfl | simp [Value.oneCell'] at h1
    have hrun : (storeVar ty ⟨b, off, none⟩ u).run P w = .ok () (w.setRow b (cur.set off u).toArray) := by
      cases hq : P.info? ty with
      | none => simp [hq] at hi
      | some i =>
        have hs' : i.size = 1 := by simpa [hq] using hi
        simp [storeVar, Sem.run_bind, sizeOf, typeInfo, hq, hs', hc]
        rw [← hs]
        simpa [splice] using hst
    unfold Oper.wp execOp
    simp only [ho, hx, hv, Instr.storeAt, Instr.sureAddr, Sem.run_bind, Sem.run_pure, Result.andThen_ok, hrun]
    exact hK _ _ (h _ (setRow_heap w b _ _ t _ hb) ((Mod.refl _ _).setRow _ _ (by simp)))

theorem results_cell_tmp {P : Program} {fn : Func} {p t : Tmp} {ty : TypeId} (h : fn.results = #[.cell p ty, .tmp t]) (tmps : Array Value) (w : World) (b : Addr) (v1 v2 : Value)
    (hp : tmps.getD p undef = .pointer (some b)) (ht : tmps.getD t undef = v2) (hl : (loadVar ty b).run P w = .ok v1 w) : (results fn tmps).run P w = .ok (.tuple #[v1, v2]) w := by
  have hp' : tmps[p]?.getD undef = .pointer (some b) := by simpa using hp
  have ht' : tmps[t]?.getD undef = v2 := by simpa using ht
  simp [results, h, hp', ht', asAddr, hl]

theorem results_cell1 {P : Program} {fn : Func} {p : Tmp} {ty : TypeId} (h : fn.results = #[.cell p ty]) (tmps : Array Value) (w : World) (b : Addr) (v1 : Value)
    (hp : tmps.getD p undef = .pointer (some b)) (hl : (loadVar ty b).run P w = .ok v1 w) : (results fn tmps).run P w = .ok v1 w := by
  have hp' : tmps[p]?.getD undef = .pointer (some b) := by simpa using hp
  simp [results, h, hp', asAddr, hl]

theorem ret_int {k : IntKind} {a b : Int} (h : a = b) : Ending.returned (.int k a) = .returned (.int k b) := by rw [h]
theorem int_eq {k : IntKind} {a b : Int} (h : a = b) : Value.int k a = .int k b := by rw [h]

theorem splice_all {α : Type} (cur cs : List α) (h : cs.length = cur.length) : splice cur 0 cs = cs := by simp [splice, h]

/-- v is a slice that owns the rows es (each of sz cells) at the head of its block. -/
def Own (w : World) (E sz : Nat) (v : Value) (es : List (List Value)) : Prop := (∀ e ∈ es, e.length = sz) ∧ w.ownsRow 0 E sz v es.length es.flatten

theorem flatten_length {sz : Nat} : ∀ {es : List (List Value)}, (∀ e ∈ es, e.length = sz) → es.flatten.length = es.length * sz
  | [], _ => by simp
  | e :: r, h => by
    have := flatten_length (es := r) (fun x hx => h x (by simp [hx]))
    have h0 := h e (by simp)
    simp [this, h0, Nat.add_mul]; omega

theorem flatten_get {sz : Nat} : ∀ {es : List (List Value)}, (∀ e ∈ es, e.length = sz) → ∀ (k j : Nat) (e : List Value), es[k]? = some e → j < sz → es.flatten[k * sz + j]? = e[j]?
  | [], _, k, j, e, hk, _ => by simp at hk
  | e0 :: r, h, 0, j, e, hk, hj => by
    simp at hk; subst hk
    have h0 := h e0 (by simp)
    rw [List.flatten_cons, List.getElem?_append_left (by omega)]; simp
  | e0 :: r, h, k + 1, j, e, hk, hj => by
    have h0 := h e0 (by simp)
    have := flatten_get (es := r) (fun x hx => h x (by simp [hx])) k j e (by simpa using hk) hj
    rw [List.flatten_cons, List.getElem?_append_right (by rw [h0, Nat.add_mul]; omega), h0, ← this]
    congr 1; rw [Nat.add_mul]; omega

theorem Own.nil (w : World) (E sz : Nat) : Own w E sz (.slice none 0 0) [] := ⟨by simp, World.ownsRow_nil w 0 E sz⟩

theorem Own.shape {w : World} {E sz : Nat} {v : Value} {es : List (List Value)} (h : Own w E sz v es) :
    (v = .slice none 0 0 ∧ es = []) ∨ ∃ b cap cur, v = .slice (some ⟨b, 0, none⟩) es.length cap ∧ b < w.heap.size ∧ es.length ≤ cap ∧ cap ≤ maxLen ∧
      w.heap[b]? = some (.cells cur E (0, 0)) ∧ cur.size = cap * sz ∧ cur.toList.take (es.length * sz) = es.flatten := by
  rcases h.2.2 with ⟨h1, h2⟩ | ⟨g, cap, cur, h1, _, h3, h4, h5, h6, h7⟩
  · exact .inl ⟨h1, List.eq_nil_of_length_eq_zero h2⟩
  · exact .inr ⟨g, cap, cur, h1, lt_of_heap h3, h4, h5, h3, h6, h7⟩

theorem Own.row {w : World} {E sz : Nat} {b n cap : Nat} {es : List (List Value)} (h : Own w E sz (.slice (some ⟨b, 0, none⟩) n cap) es) (k : Nat) (e : List Value) (hk : es[k]? = some e) : Row w b (k * sz) e := by
  intro j u hu
  have he : e.length = sz := h.1 e (List.mem_of_getElem? hk)
  have hj : j < sz := by rw [← he]; exact (List.getElem?_eq_some_iff.1 hu).1
  have hfl := flatten_get h.1 k j e hk hj
  have := h.2.cells (g := b) rfl (k * sz + j) u (by rw [hfl]; exact hu)
  rwa [addr_add, Nat.zero_add] at this

theorem Own.mod {S : List Nat} {w w' : World} (hm : Mod S w w') {E sz : Nat} {v : Value} {es : List (List Value)} (h : Own w E sz v es) (hb : ∀ b, v.ownBlock = some b → b ∉ S) : Own w' E sz v es := by
  refine ⟨h.1, h.2.1, ?_⟩
  rcases h.2.2 with h1 | ⟨g, cap, cur, h1, h2, h3, h4⟩
  · exact .inl h1
  · exact .inr ⟨g, cap, cur, h1, h2, hm.heap h3 (hb g (by rw [h1]; rfl)), h4⟩

theorem Own.lt {w : World} {E sz : Nat} {v : Value} {es : List (List Value)} (h : Own w E sz v es) : ∀ b, v.ownBlock = some b → b < w.heap.size := fun b hb => (h.2.lt b hb).2

end Go.Proofs.Ytknkifanpppglaa

/- append to a slice that owns its row. -/
namespace Go.Proofs.Ytknkifanpppglaa
open Go.RowKit

/-- t is the slice type of elements e, each of size cells and bytes bytes -/
structure STy (P : Program) (t e size bytes : Nat) : Prop where
  u : P.underlying t = some (.slice e)
  info : ∃ i z, P.info? e = some i ∧ i.zero = some z ∧ i.size = size ∧ i.bytes = bytes ∧ z.cells.size = size
  pos : 0 < size

theorem STy.mk' {P : Program} {t e size bytes : Nat} {z : Value} (h1 : P.underlying t = some (.slice e)) (h2 : (P.info? e).map (fun i => (i.zero, i.size, i.bytes)) = some (some z, size, bytes)) (h3 : z.cells.size = size) (h4 : 0 < size) : STy P t e size bytes := by
  obtain ⟨i, a, b, c, d⟩ := info_parts h2
  exact ⟨h1, ⟨i, z, a, b, c, d, h3⟩, h4⟩

/-- x is a slice whose rows are ns -/
def Src (w : World) (sz : Nat) (x : Value) (ns : List (List Value)) : Prop :=
  (∀ e ∈ ns, e.length = sz) ∧ ((∃ c, x = .slice none 0 c ∧ ns = []) ∨ ∃ b off c, x = .slice (some ⟨b, off, none⟩) ns.length c ∧ Row w b off ns.flatten)

theorem Src.mod {S : List Nat} {w w' : World} (hm : Mod S w w') {sz : Nat} {x : Value} {ns : List (List Value)} (h : Src w sz x ns) (hb : ∀ b, x.ownBlock = some b → b ∉ S) : Src w' sz x ns := by
  refine ⟨h.1, ?_⟩
  rcases h.2 with h1 | ⟨b, off, c, h1, h2⟩
  · exact .inl h1
  · exact .inr ⟨b, off, c, h1, h2.mod hm (hb b (by rw [h1]; rfl))⟩

theorem Own.src {w : World} {E sz : Nat} {v : Value} {es : List (List Value)} (h : Own w E sz v es) : Src w sz v es := by
  refine ⟨h.1, ?_⟩
  rcases h.shape with ⟨h1, h2⟩ | ⟨b, cap, cur, h1, _⟩
  · exact .inl ⟨0, h1, h2⟩
  · refine .inr ⟨b, 0, cap, h1, fun j u hu => ?_⟩
    have := h.2.cells (g := b) (by rw [h1]; rfl) j u hu
    rwa [addr_add] at this

/-- one element in a row of its own -/
theorem Src.one {w : World} {b off c sz : Nat} {e : List Value} (hl : e.length = sz) (hr : Row w b off e) : Src w sz (.slice (some ⟨b, off, none⟩) 1 c) [e] :=
  ⟨by simpa using hl, .inr ⟨b, off, c, rfl, by simpa using hr⟩⟩

theorem Src.nil (w : World) (sz c : Nat) : Src w sz (.slice none 0 c) [] := ⟨by simp, .inl ⟨c, rfl, rfl⟩⟩

def FreshOr (w : World) (v v' : Value) : Prop := v'.ownBlock = v.ownBlock ∨ ∃ g, v'.ownBlock = some g ∧ w.heap.size ≤ g

theorem run_append_Own {P : Program} {t e size bytes : Nat} (T : STy P t e size bytes) (w : World) (ty : TypeId) (v x : Value) (es ns : List (List Value)) (ho : Own w e size v es) (hx : Src w size x ns)
    (h1 : ∀ r ∈ ns, ∀ u ∈ r, u.oneCell' = true) (hn : es.length + ns.length ≤ maxLen) (hb : (es.length + ns.length) * bytes ≤ 140737488355328) :
    ∃ v' w', (Builtin.append_ #[t, t] ty #[v, x]).run P w = .ok v' w' ∧ Own w' e size v' (es ++ ns) ∧ Mod v.ownBlock.toList w w' ∧ FreshOr w v v' := by
  obtain ⟨i, z, hi, hz, hs, hby, hzs⟩ := T.info
  have h1' : ∀ u ∈ ns.flatten, u.oneCell' = true := by
    intro u hu
    obtain ⟨r, hr, hur⟩ := List.mem_flatten.1 hu
    exact h1 r hr u hur
  rcases hx.2 with ⟨c, rfl, rfl⟩ | ⟨b, off, c, rfl, hr⟩
  · refine ⟨v, w, ?_, by simpa using ho, Mod.refl _ _, .inl rfl⟩
    rcases ho.2.2 with ⟨rfl, h0⟩ | ⟨g, cap, cur, rfl, _, _, hnc, _⟩
    · simp [Builtin.append_, run_underlying T.u, sizeOf, typeInfo, hi, Builtin.lenOf, Builtin.firstCells]
    · simp [Builtin.append_, run_underlying T.u, sizeOf, typeInfo, hi, Builtin.lenOf, Builtin.firstCells, hnc, storeCells]
  · have hnews : ∀ j u, ns.flatten[j]? = some u → w.cell? ((⟨b, off, none⟩ : Addr).add j) = some u := fun j u hu => by rw [addr_add]; exact hr j u hu
    have hl := flatten_length hx.1
    obtain ⟨v', w', hrun, hown, hgr, hnil⟩ := run_append_own (P := P) w 0 t ty e i z size bytes T.u hi hz hs hby hzs T.pos v es.length es.flatten ho.2 ⟨b, off, none⟩ ns.length c ns.flatten hl hnews h1' hn hb (Nat.zero_le _)
    refine ⟨v', w', hrun, ⟨?_, ?_⟩, ?_, ?_⟩
    · intro r hr
      rcases List.mem_append.1 hr with hr | hr
      · exact ho.1 r hr
      · exact hx.1 r hr
    · rw [List.length_append, List.flatten_append]; exact hown
    · exact (Mod.refl _ _).grown hgr (by intro k hk; left; simp [hk])
    · subst hs hby
      have hsmall : es.length + ns.length ≤ 9223372036854775807 := by simp only [maxLen] at hn; omega
      rcases ho.2.2 with ⟨rfl, h0⟩ | ⟨g, cap, cur, rfl, hbg, hg, hnc, hcm, hcs, htake⟩
      · by_cases hm : ns.length = 0
        · have : v' = .slice none 0 0 := hnil.2 ⟨rfl, hm⟩
          exact .inl (by rw [this])
        · have hr2 := run_append_nil (P := P) w t ty e i z T.u hi hz ⟨b, off, none⟩ ns.length c ns.flatten hl hnews (by omega) (by omega) (by rw [h0, Nat.zero_add] at hb; omega)
          rw [hrun] at hr2
          cases hr2
          exact .inr ⟨_, rfl, Nat.le_refl _⟩
      · by_cases hroom : es.length + ns.length ≤ cap
        · obtain ⟨w2, hr2, _⟩ := run_append_fits (P := P) w 0 t ty e i i.size T.u hi rfl g es.length cap es.flatten ho.2 ⟨b, off, none⟩ ns.length c ns.flatten hl hnews h1' hroom
          rw [hrun] at hr2
          cases hr2
          exact .inl rfl
        · have holds : ∀ j u, es.flatten[j]? = some u → w.cell? ((⟨g, 0, none⟩ : Addr).add j) = some u := ho.2.cells (g := g) rfl
          have hr2 := run_append_grow (P := P) w t ty e i z T.u hi hz ⟨g, 0, none⟩ es.length cap es.flatten ho.2.1 holds ⟨b, off, none⟩ ns.length c ns.flatten hl hnews (by omega) (by omega) (growslice_fits (by omega) hb)
          rw [hrun] at hr2
          cases hr2
          exact .inr ⟨_, rfl, Nat.le_refl _⟩

theorem wpList_append_Own {P : Program} {t e size bytes : Nat} (T : STy P t e size bytes) {ops : Array Oper} {rest : List Oper} {o : Oper} {a : Act} {w : World} {Q : Exit → Act → World → Prop} (hw : Region.wanted o (yielded ops a.tmps) = true) (s y : Operand)
    (hop : o.op = .call { callee := .builtin .append, args := #[s, y], argTypes := #[t, t] })
    (v x : Value) (hs : a.eval s = v) (hy : a.eval y = x) (es ns : List (List Value)) (ho : Own w e size v es) (hx : Src w size x ns)
    (h1 : ∀ r ∈ ns, ∀ u ∈ r, u.oneCell' = true) (hn : es.length + ns.length ≤ maxLen) (hb : (es.length + ns.length) * bytes ≤ 140737488355328)
    (h : ∀ v' w', Own w' e size v' (es ++ ns) → Mod v.ownBlock.toList w w' → FreshOr w v v' → wpList P ops Q rest (a.put o.dst v') w') : wpList P ops Q (o :: rest) a w :=
  wpList_wanted hw fun _ hK => by
    obtain ⟨v', w', hr, h2, h3, h4⟩ := run_append_Own T w o.type v x es ns ho hx h1 hn hb
    unfold Oper.wp execOp
    simp only [hop, resolve, invoke, builtin, Sem.run_bind, Sem.run_pure, Result.andThen_ok, List.map_toArray, List.map_cons, List.map_nil, hs, hy, hr]
    exact hK _ _ (h v' w' h2 h3 h4)

theorem heap_alloc_at (w : World) (o : Obj) : (w.alloc o).heap[w.heap.size]? = some o := by
  show (w.heap.push o)[w.heap.size]? = _
  simp

/-- a row that was just laid is owned -/
theorem Own.lit (w : World) (E sz : Nat) (es : List (List Value)) (hs : ∀ e ∈ es, e.length = sz) (hm : es.length ≤ maxLen) (cs : List Value) (hc : cs = es.flatten) :
    Own (w.alloc (.cells cs.toArray E)) E sz (.slice (some ⟨w.heap.size, 0, none⟩) es.length es.length) es := by
  subst hc
  have hl := flatten_length hs
  refine ⟨hs, hl, .inr ⟨w.heap.size, es.length, _, rfl, Nat.zero_le _, heap_alloc_at w _, Nat.le_refl _, hm, by simpa using hl, ?_⟩⟩
  exact List.take_of_length_le (by simp [hl])

theorem Own.lit0 (w : World) (E sz : Nat) : Own (w.alloc (.cells #[] E)) E sz (.slice (some ⟨w.heap.size, 0, none⟩) 0 0) [] := Own.lit w E sz [] (by simp) (Nat.zero_le _) [] rfl

end Go.Proofs.Ytknkifanpppglaa

/- A map from units to numbers: what lookup, update and delete do with the entries; equality of units and of digests. -/
namespace Go.Proofs.Ytknkifanpppglaa
open Go.RowKit

def U3.cells (u : U3) : List Value := [.int .i64 u.row, .int .i64 u.group, .int .i64 u.unit]
def U3.val (u : U3) : Value := .agg #[.int .i64 u.row, .int .i64 u.group, .int .i64 u.unit]
theorem U3.val_eq (u : U3) : u.val = .agg u.cells.toArray := rfl

theorem info3 : (Try.prog.info? 3).map (·.size) = some 1 := by kernel_rfl
theorem info24 : (Try.prog.info? 24).map (·.size) = some 2 := by kernel_rfl
theorem info26 : (Try.prog.info? 26).map (·.size) = some 3 := by kernel_rfl

theorem stood26 : Try.prog.stoodInHeld 26 = false := by kernel_rfl
theorem stood24 : Try.prog.stoodInHeld 24 = false := by kernel_rfl

theorem equalIn_int (d : Nat) (a b : Int) (w : World) : (Op.equalIn (d + 1) 3 (.int .i64 a) (.int .i64 b)).run Try.prog w = .ok (a == b) w := by
  unfold Op.equalIn
  simp [run_underlying Try.underlying3]

theorem part_int (cs : Array Value) (off : Nat) (v : Value) (h : cs[off]? = some v) (w : World) : (part 3 cs off).run Try.prog w = .ok v w := by
  simp [part, isAgg, run_underlying Try.underlying3, h]

theorem part_stripe (a b c : Value) (w : World) : (part 24 #[a, b, c] 0).run Try.prog w = .ok (.agg #[a, b]) w := by
  cases hq : Try.prog.info? 24 with
  | none => have := info24; simp [hq] at this
  | some i =>
    have hs : i.size = 2 := by have := info24; simpa [hq] using this
    simp [part, isAgg, run_underlying Try.underlying24, sizeOf, typeInfo, hq, hs]

theorem equalIn_stripe (d : Nat) (a b c e : Int) (w : World) :
    (Op.equalIn (d + 2) 24 (.agg #[.int .i64 a, .int .i64 b]) (.agg #[.int .i64 c, .int .i64 e])).run Try.prog w = .ok (a == c && b == e) w := by
  unfold Op.equalIn
  simp [run_underlying Try.underlying24, part_int, equalIn_int]
  by_cases h1 : a = c <;> by_cases h2 : b = e <;> simp [h1, h2]

theorem equalIn_unit (d : Nat) (u v : U3) (w : World) : (Op.equalIn (d + 3) 26 u.val v.val).run Try.prog w = .ok (decide (u = v)) w := by
  obtain ⟨a, b, c⟩ := u
  obtain ⟨a', b', c'⟩ := v
  unfold Op.equalIn
  simp [U3.val, run_underlying Try.underlying26, part_stripe, part_int, equalIn_int, equalIn_stripe]
  by_cases h1 : a = a' <;> by_cases h2 : b = b' <;> by_cases h3 : c = c' <;> simp [h1, h2, h3]

theorem equal_unit (u v : U3) (w : World) : (Op.equal 26 u.val v.val).run Try.prog w = .ok (decide (u = v)) w :=
  equalIn_unit 9997 u v w

theorem checkKey_int (b : Bool) (d : Nat) (a : Int) (w : World) : (Instr.checkKey b (d + 1) 3 (.int .i64 a)).run Try.prog w = .ok () w := by
  unfold Instr.checkKey
  simp [run_underlying Try.underlying3]

theorem checkKey_stripe (b : Bool) (d : Nat) (a c : Int) (w : World) : (Instr.checkKey b (d + 2) 24 (.agg #[.int .i64 a, .int .i64 c])).run Try.prog w = .ok () w := by
  unfold Instr.checkKey
  simp [run_underlying Try.underlying24, part_int, checkKey_int]

theorem checkKey_unit (b : Bool) (u : U3) (w : World) : (Instr.checkKey b 10000 26 u.val).run Try.prog w = .ok () w := by
  show (Instr.checkKey b (9997 + 3) 26 u.val).run Try.prog w = .ok () w
  unfold Instr.checkKey
  simp [U3.val, run_underlying Try.underlying26, part_stripe, part_int, checkKey_int, checkKey_stripe]

/-- where a key stands among the entries -/
def mfind : List (U3 × Int) → U3 → Nat → Option (Nat × Int)
  | [], _, _ => none
  | x :: M, u, i => if u = x.1 then some (i, x.2) else mfind M u (i + 1)
def mget (M : List (U3 × Int)) (u : U3) : Option Int := (mfind M u 0).map (·.2)
def mset (M : List (U3 × Int)) (u : U3) (v : Int) : List (U3 × Int) :=
  match mfind M u 0 with
  | some p => M.set p.1 (u, v)
  | none => M ++ [(u, v)]
def mdel (M : List (U3 × Int)) (u : U3) : List (U3 × Int) :=
  match mfind M u 0 with
  | some p => M.eraseIdx p.1
  | none => M

def encM (x : U3 × Int) : Value × Value := (x.1.val, .int .i64 x.2)
def MapIs (w : World) (mb : Nat) (M : List (U3 × Int)) : Prop :=
  ∃ es clock, w.heap[mb]? = some (.map es clock) ∧ es.toList.map (fun e => (e.key, e.val)) = M.map encM ∧ (M.map (·.1)).Nodup

theorem mfind_some : ∀ {M : List (U3 × Int)} {u : U3} {i : Nat} {p : Nat × Int}, mfind M u i = some p → i ≤ p.1 ∧ M[p.1 - i]? = some (u, p.2)
  | [], _, _, _, h => by simp [mfind] at h
  | x :: M, u, i, p, h => by
    unfold mfind at h
    split at h
    · rename_i he
      cases h
      simp [he]
    · have := mfind_some h
      refine ⟨by omega, ?_⟩
      rw [show p.1 - i = (p.1 - (i + 1)) + 1 by omega]
      simpa using this.2

theorem mfind_none : ∀ {M : List (U3 × Int)} {u : U3} {i : Nat}, mfind M u i = none ↔ ∀ x ∈ M, x.1 ≠ u
  | [], _, _ => by simp [mfind]
  | x :: M, u, i => by
    unfold mfind
    by_cases he : u = x.1
    · simp [he]
    · rw [if_neg he, mfind_none]
      simp
      intro _ e
      exact he e.symm

theorem findAsking_run (w : World) (u : U3) : ∀ (es : List MapEntry) (M : List (U3 × Int)) (i : Nat), es.map (fun e => (e.key, e.val)) = M.map encM →
    (Instr.findAsking 26 u.val es i).run Try.prog w = .ok ((mfind M u i).map (fun p => (p.1, Value.int .i64 p.2))) w
  | [], [], i, _ => by simp [Instr.findAsking, mfind]
  | [], _ :: _, i, h => by simp at h
  | _ :: _, [], i, h => by simp at h
  | e :: es, x :: M, i, h => by
    simp only [List.map_cons, List.cons.injEq, encM, Prod.mk.injEq] at h
    obtain ⟨⟨h1, h2⟩, h3⟩ := h
    have ih := findAsking_run w u es M (i + 1) h3
    unfold Instr.findAsking mfind
    simp only [h1, Sem.run_bind, equal_unit, Result.andThen_ok]
    by_cases he : u = x.1
    · simp [he, h2]
    · simp [he, ih]

theorem findKey_run (w : World) (u : U3) (es : List MapEntry) (M : List (U3 × Int)) (h : es.map (fun e => (e.key, e.val)) = M.map encM) :
    (Instr.findKey 26 u.val es).run Try.prog w = .ok ((mfind M u 0).map (fun p => (p.1, Value.int .i64 p.2))) w := by
  unfold Instr.findKey
  simp only [Sem.run_bind, run_underlying Try.underlying26, Result.andThen_ok]
  cases es with
  | nil =>
    cases M with
    | nil => simp [Instr.findNow, mfind]
    | cons x M => simp at h
  | cons e es =>
    simp only [Instr.findNow, Instr.sameNow]
    exact findAsking_run w u (e :: es) M 0 h

theorem zero_int (w : World) : (zeroValue 3).run Try.prog w = .ok (.int .i64 0) w := by kernel_rfl

theorem run_lookup_unit (w : World) (mb : Nat) (M : List (U3 × Int)) (u : U3) (hm : MapIs w mb M) :
    (Instr.lookup 118 (.map (some mb)) u.val true).run Try.prog w = .ok (.tuple #[.int .i64 ((mget M u).getD 0), .bool (mget M u).isSome]) w := by
  obtain ⟨es, clock, h1, h2, h3⟩ := hm
  have hg : (getObj mb).run Try.prog w = .ok (.map es clock) w := by simp [getObj, Sem.run, h1]
  have hk := findKey_run w u es.toList M h2
  cases hf : mfind M u 0 with
  | none => simp [Instr.lookup, run_underlying Try.underlying118, hg, checkKey_unit, hk, hf, mget]
  | some p => simp [Instr.lookup, run_underlying Try.underlying118, hg, checkKey_unit, hk, hf, mget]

theorem sameBits_unit (u : U3) : Instr.sameBits 10000 u.val u.val = true := by
  show Instr.sameBits (9998 + 2) _ _ = true
  simp [U3.val, Instr.sameBits]

theorem getElem_encM {es : Array MapEntry} {M : List (U3 × Int)} (h : es.toList.map (fun e => (e.key, e.val)) = M.map encM) {i : Nat} {x : U3 × Int} (hx : M[i]? = some x) :
    ∃ e, es[i]? = some e ∧ e.key = x.1.val ∧ e.val = .int .i64 x.2 := by
  have h1 := congrArg (fun l => l[i]?) h
  simp only [List.getElem?_map, hx, Option.map_some, encM] at h1
  cases he : es.toList[i]? with
  | none => rw [he] at h1; simp at h1
  | some e =>
    rw [he] at h1
    simp at h1
    exact ⟨e, by simpa using he, h1.1, h1.2⟩

theorem map_modify_encM {es : Array MapEntry} {M : List (U3 × Int)} (h : es.toList.map (fun e => (e.key, e.val)) = M.map encM) (i : Nat) (u : U3) (v : Int) :
    (es.modify i fun e => { e with key := u.val, val := .int .i64 v }).toList.map (fun e => (e.key, e.val)) = (M.set i (u, v)).map encM := by
  apply List.ext_getElem?
  intro j
  have h1 := congrArg (fun l => l[j]?) h
  simp only [List.getElem?_map] at h1 ⊢
  rw [List.getElem?_set, Array.getElem?_toList, Array.getElem?_modify]
  rw [Array.getElem?_toList] at h1
  have hlen : es.size = M.length := by have := congrArg List.length h; simpa using this
  by_cases hij : i = j
  · subst hij
    by_cases hi : i < M.length
    · rw [if_pos rfl, if_pos rfl, if_pos hi, Array.getElem?_eq_getElem (by omega)]
      simp [encM]
    · rw [if_pos rfl, if_pos rfl, if_neg hi, Array.getElem?_eq_none (by omega)]
      simp
  · rw [if_neg hij, if_neg hij]
    exact h1

theorem run_mapUpdate_unit (w : World) (mb : Nat) (M : List (U3 × Int)) (u : U3) (v : Int) (hm : MapIs w mb M) :
    ∃ w', (Instr.mapUpdate 118 (.map (some mb)) u.val (.int .i64 v)).run Try.prog w = .ok () w' ∧ MapIs w' mb (mset M u v) ∧ Mod [mb] w w' := by
  obtain ⟨es, clock, h1, h2, h3⟩ := hm
  have hg : (getObj mb).run Try.prog w = .ok (.map es clock) w := by simp [getObj, Sem.run, h1]
  have hk := findKey_run w u es.toList M h2
  have hs : ∀ o, (setObj mb o).run Try.prog w = .ok () { w with heap := w.heap.setIfInBounds mb o } := by intro o; simp [setObj, Sem.run, h1]
  have hlt := lt_of_heap h1
  have hheap : ∀ o, ({ w with heap := w.heap.setIfInBounds mb o } : World).heap[mb]? = some o := by
    intro o
    simp [hlt]
  have hmod : ∀ o, Mod [mb] w { w with heap := w.heap.setIfInBounds mb o } := fun o => ⟨rfl, rfl, rfl, by simp, fun k _ hk => by
    have : mb ≠ k := by simp at hk; exact fun e => hk e.symm
    simp [Array.getElem?_setIfInBounds_ne this]⟩
  cases hf : mfind M u 0 with
  | none =>
    refine ⟨_, by simp [Instr.mapUpdate, run_underlying Try.underlying118, hg, checkKey_unit, hk, hf, hs]; rfl, ⟨_, _, hheap _, ?_, ?_⟩, hmod _⟩
    · simp [mset, hf, h2, encM]
    · have := mfind_none.1 hf
      simp only [mset, hf, List.map_append, List.map_cons, List.map_nil]
      rw [List.nodup_append]
      refine ⟨h3, by simp, ?_⟩
      intro a ha b hb e
      simp at hb
      obtain ⟨x, hx, rfl⟩ := List.mem_map.1 ha
      exact this x hx (by rw [e, hb])
  | some p =>
    obtain ⟨_, hp⟩ := mfind_some hf
    simp only [Nat.sub_zero] at hp
    obtain ⟨e, he1, he2, he3⟩ := getElem_encM h2 hp
    have hkt : (Instr.keyThatStays u.val u.val).run Try.prog w = .ok u.val w := by simp [Instr.keyThatStays, sameBits_unit]
    refine ⟨_, by simp [Instr.mapUpdate, run_underlying Try.underlying118, hg, checkKey_unit, hk, hf, he1, he2, hkt, hs]; rfl, ⟨_, _, hheap _, ?_, ?_⟩, hmod _⟩
    · simp only [mset, hf]
      exact map_modify_encM h2 p.1 u v
    · simp only [mset, hf]
      have : (M.set p.1 (u, v)).map (·.1) = M.map (·.1) := by
        apply List.ext_getElem?
        intro j
        simp only [List.getElem?_map, List.getElem?_set]
        split
        · rename_i e; subst e
          rw [hp]
          split
          · rfl
          · rename_i hn; exact absurd (List.getElem?_eq_some_iff.1 hp).1 hn
        · rfl
      rw [this]; exact h3

theorem map_erase {α β : Type} (f : α → β) : ∀ (l : List α) (i : Nat), (l.eraseIdx i).map f = (l.map f).eraseIdx i
  | [], _ => rfl
  | _ :: _, 0 => rfl
  | a :: l, i + 1 => by simp [map_erase f l i]

theorem run_delete_unit (w : World) (mb : Nat) (M : List (U3 × Int)) (u : U3) (ty : TypeId) (hm : MapIs w mb M) :
    ∃ w', (Builtin.delete_ #[118, 26] ty #[.map (some mb), u.val]).run Try.prog w = .ok (.tuple #[]) w' ∧ MapIs w' mb (mdel M u) ∧ Mod [mb] w w' := by
  obtain ⟨es, clock, h1, h2, h3⟩ := hm
  have hg : (getObj mb).run Try.prog w = .ok (.map es clock) w := by simp [getObj, Sem.run, h1]
  have hk := findKey_run w u es.toList M h2
  have hs : ∀ o, (setObj mb o).run Try.prog w = .ok () { w with heap := w.heap.setIfInBounds mb o } := by intro o; simp [setObj, Sem.run, h1]
  have hlt := lt_of_heap h1
  have hheap : ∀ o, ({ w with heap := w.heap.setIfInBounds mb o } : World).heap[mb]? = some o := by
    intro o
    simp [hlt]
  have hmod : ∀ o, Mod [mb] w { w with heap := w.heap.setIfInBounds mb o } := fun o => ⟨rfl, rfl, rfl, by simp, fun k _ hk => by
    have : mb ≠ k := by simp at hk; exact fun e => hk e.symm
    simp [Array.getElem?_setIfInBounds_ne this]⟩
  cases hf : mfind M u 0 with
  | none =>
    refine ⟨_, by simp [Builtin.delete_, run_underlying Try.underlying118, hg, checkKey_unit, hk, hf, hs]; rfl, ⟨_, _, hheap _, ?_, ?_⟩, hmod _⟩
    · simpa [mdel, hf] using h2
    · simpa [mdel, hf] using h3
  | some p =>
    refine ⟨_, by simp [Builtin.delete_, run_underlying Try.underlying118, hg, checkKey_unit, hk, hf, hs]; rfl, ⟨_, _, hheap _, ?_, ?_⟩, hmod _⟩
    · simp only [mdel, hf]
      rw [Array.toList_eraseIdxIfInBounds, map_erase, map_erase, h2]
    · simp only [mdel, hf]
      rw [map_erase]
      exact h3.sublist (List.eraseIdx_sublist _ _)

theorem wpList_delete_unit {ops : Array Oper} {rest : List Oper} {o : Oper} {a : Act} {w : World} {Q : Exit → Act → World → Prop} (hw : Region.wanted o (yielded ops a.tmps) = true) (m k : Operand)
    (hop : o.op = .call { callee := .builtin .delete, args := #[m, k], argTypes := #[118, 26] }) (mb : Nat) (u : U3) (M : List (U3 × Int)) (hm : a.eval m = .map (some mb)) (hk : a.eval k = u.val) (hM : MapIs w mb M)
    (h : ∀ w', MapIs w' mb (mdel M u) → Mod [mb] w w' → wpList Try.prog ops Q rest (a.put o.dst (.tuple #[])) w') : wpList Try.prog ops Q (o :: rest) a w :=
  wpList_wanted hw fun _ hK => by
    obtain ⟨w', hr, h2, h3⟩ := run_delete_unit w mb M u o.type hM
    unfold Oper.wp execOp
    simp only [hop, resolve, invoke, builtin, Sem.run_bind, Sem.run_pure, Result.andThen_ok, List.map_toArray, List.map_cons, List.map_nil, hm, hk, hr]
    exact hK _ _ (h w' h2 h3)

theorem wpList_mapUpdate_unit {ops : Array Oper} {rest : List Oper} {o : Oper} {a : Act} {w : World} {Q : Exit → Act → World → Prop} (hw : Region.wanted o (yielded ops a.tmps) = true) (m k v : Operand)
    (hop : o.op = .mapUpdate 118 m k v) (mb : Nat) (u : U3) (x : Int) (M : List (U3 × Int)) (hm : a.eval m = .map (some mb)) (hk : a.eval k = u.val) (hv : a.eval v = .int .i64 x) (hM : MapIs w mb M)
    (h : ∀ w', MapIs w' mb (mset M u x) → Mod [mb] w w' → wpList Try.prog ops Q rest (a.put o.dst undef) w') : wpList Try.prog ops Q (o :: rest) a w :=
  wpList_wanted hw fun _ hK => by
    obtain ⟨w', hr, h2, h3⟩ := run_mapUpdate_unit w mb M u x hM
    unfold Oper.wp execOp
    simp only [hop, Sem.run_bind, Sem.run_pure, Result.andThen_ok, hm, hk, hv, hr]
    exact hK _ _ (h w' h2 h3)

theorem mfind_shift (M : List (U3 × Int)) (u : U3) : ∀ i, (mfind M u i).map (·.2) = (mfind M u 0).map (·.2) := by
  induction M with
  | nil => intro i; rfl
  | cons x M ih =>
    intro i
    unfold mfind
    split
    · rfl
    · rw [ih (i + 1), ih (0 + 1)]

theorem mget_nil (u : U3) : mget [] u = none := rfl
theorem mget_cons (x : U3 × Int) (M : List (U3 × Int)) (u : U3) : mget (x :: M) u = if u = x.1 then some x.2 else mget M u := by
  unfold mget
  rw [mfind]
  split
  · rfl
  · exact mfind_shift M u _

theorem mget_append (M N : List (U3 × Int)) (u : U3) : mget (M ++ N) u = (mget M u).or (mget N u) := by
  induction M with
  | nil => simp [mget_nil]
  | cons x M ih =>
    rw [List.cons_append, mget_cons, mget_cons, ih]
    split <;> simp

theorem mget_none {M : List (U3 × Int)} {u : U3} : mget M u = none ↔ ∀ x ∈ M, x.1 ≠ u := by
  unfold mget
  rw [Option.map_eq_none_iff, mfind_none]

theorem mget_mem {M : List (U3 × Int)} (hn : (M.map (·.1)).Nodup) {u : U3} {v : Int} : mget M u = some v ↔ (u, v) ∈ M := by
  induction M with
  | nil => simp [mget_nil]
  | cons x M ih =>
    rw [List.map_cons, List.nodup_cons] at hn
    rw [mget_cons, List.mem_cons]
    split
    · rename_i h
      subst h
      constructor
      · intro h; simp at h; left; rw [← h]
      · rintro (h | h)
        · rw [← h]
        · exact absurd (List.mem_map.2 ⟨_, h, rfl⟩) hn.1
    · rename_i h
      rw [ih hn.2]
      constructor
      · exact .inr
      · rintro (h2 | h2)
        · exact absurd (by rw [← h2]) h
        · exact h2

theorem mget_set {M : List (U3 × Int)} (u : U3) (v : Int) (u' : U3) : mget (mset M u v) u' = if u' = u then some v else mget M u' := by
  unfold mset
  cases hf : mfind M u 0 with
  | none =>
    simp only
    rw [mget_append, mget_cons, mget_nil]
    by_cases h : u' = u
    · subst h
      have : mget M u' = none := by unfold mget; rw [hf]; rfl
      rw [this]; simp
    · simp [h]
  | some p =>
    simp only
    obtain ⟨_, hp⟩ := mfind_some hf
    simp only [Nat.sub_zero] at hp
    have key : ∀ (M : List (U3 × Int)) (i : Nat) (w : Int), M[i]? = some (u, w) → (∀ j x, j < i → M[j]? = some x → x.1 ≠ u) → mget (M.set i (u, v)) u' = if u' = u then some v else mget M u' := by
      intro M
      induction M with
      | nil => intro i w h; simp at h
      | cons x M ih =>
        intro i w h hlt
        cases i with
        | zero =>
          simp at h; subst h
          rw [List.set_cons_zero, mget_cons, mget_cons]
          split <;> rfl
        | succ i =>
          rw [List.set_cons_succ, mget_cons, mget_cons, ih i w (by simpa using h) (fun j y hj hy => hlt (j + 1) y (by omega) (by simpa using hy))]
          have hx := hlt 0 x (by omega) rfl
          by_cases h1 : u' = x.1
          · have : u' ≠ u := fun e => hx (by rw [← h1, e])
            rw [if_pos h1, if_neg this, if_pos h1]
          · rw [if_neg h1, if_neg h1]
    refine key M p.1 p.2 hp (fun j x hj hx e => ?_)
    have first : ∀ (M : List (U3 × Int)) (i : Nat) (q : Nat × Int), mfind M u i = some q → ∀ j x, j < q.1 - i → M[j]? = some x → x.1 ≠ u := by
      intro M
      induction M with
      | nil => intro i q h; simp [mfind] at h
      | cons y M ih =>
        intro i q h j x hj hx
        unfold mfind at h
        split at h
        · cases h; omega
        · rename_i hne
          have hle := (mfind_some h).1
          cases j with
          | zero => simp at hx; subst hx; exact fun e => hne e.symm
          | succ j => exact ih (i + 1) q h j x (by omega) (by simpa using hx)
    exact first M 0 p hf j x (by omega) hx e

theorem mget_del {M : List (U3 × Int)} (hn : (M.map (·.1)).Nodup) (u u' : U3) : mget (mdel M u) u' = if u' = u then none else mget M u' := by
  have hd : ((mdel M u).map (·.1)).Nodup := by
    unfold mdel
    cases mfind M u 0 with
    | none => exact hn
    | some p => simp only; rw [map_erase]; exact hn.sublist (List.eraseIdx_sublist _ _)
  have hmem : ∀ x, x ∈ mdel M u ↔ x ∈ M ∧ x.1 ≠ u := by
    intro x
    unfold mdel
    cases hf : mfind M u 0 with
    | none => simp only; exact ⟨fun h => ⟨h, mfind_none.1 hf x h⟩, fun h => h.1⟩
    | some p =>
      simp only
      obtain ⟨_, hp⟩ := mfind_some hf
      simp only [Nat.sub_zero] at hp
      rw [List.mem_eraseIdx_iff_getElem?]
      constructor
      · rintro ⟨i, hi, hx⟩
        refine ⟨List.mem_of_getElem? hx, fun e => hi ?_⟩
        have h1 : (M.map (·.1))[i]? = some u := by simp [hx, e]
        have h2 : (M.map (·.1))[p.1]? = some u := by simp [hp]
        exact (List.getElem?_inj (List.getElem?_eq_some_iff.1 h1).1 hn).1 (h1.trans h2.symm)
      · rintro ⟨hx, hne⟩
        obtain ⟨i, hi, he⟩ := List.getElem_of_mem hx
        refine ⟨i, fun e => hne ?_, by rw [List.getElem?_eq_getElem hi, he]⟩
        subst e
        rw [List.getElem?_eq_getElem hi, he] at hp
        simp at hp; rw [hp]
  by_cases h : u' = u
  · subst h
    rw [if_pos rfl, mget_none]
    exact fun x hx => ((hmem x).1 hx).2
  · rw [if_neg h]
    cases hM : mget M u' with
    | none => rw [mget_none]; exact fun x hx => mget_none.1 hM x ((hmem x).1 hx).1
    | some v => rw [mget_mem hd, hmem]; exact ⟨(mget_mem hn).1 hM, h⟩

theorem MapIs.nodup {w : World} {mb : Nat} {M : List (U3 × Int)} (h : MapIs w mb M) : (M.map (·.1)).Nodup := by obtain ⟨_, _, _, _, h⟩ := h; exact h
theorem MapIs.mod {S : List Nat} {w w' : World} (hm : Mod S w w') {mb : Nat} {M : List (U3 × Int)} (h : MapIs w mb M) (hb : mb ∉ S) : MapIs w' mb M := by
  obtain ⟨es, clock, h1, h2⟩ := h
  exact ⟨es, clock, hm.heap h1 hb, h2⟩

end Go.Proofs.Ytknkifanpppglaa

/- How a chunk, its references, the program's table and the reference's table lie in memory. -/
namespace Go.Proofs.Ytknkifanpppglaa
open Go.RowKit

def Ck.cells (c : Ck) (rv : Value) : List Value :=
  .int .i64 c.id :: (c.dig.map (Value.int .u8) ++ [.int .u32 c.print, .int .i64 c.pos.row, .int .i64 c.pos.group, .int .i64 c.pos.unit, .bool c.lost, rv])
def refCells (x : Int × Int) : List Value := [.int .i64 x.1, .int .i64 x.2]

theorem Ck.cells_len {c : Ck} {rv : Value} : (c.cells rv).length = c.dig.length + 7 := by simp [Ck.cells]
theorem Ck.c0 (c : Ck) (rv : Value) : (c.cells rv)[0]? = some (.int .i64 c.id) := rfl
theorem Ck.cd {c : Ck} (rv : Value) (j : Nat) (x : Int) (hj : c.dig[j]? = some x) : (c.cells rv)[1 + j]? = some (.int .u8 x) := by
  have := (List.getElem?_eq_some_iff.1 hj).1
  rw [Nat.add_comm]
  simp [Ck.cells, List.getElem?_append, this]
  exact (List.getElem?_eq_some_iff.1 hj).2
theorem Ck.ct {c : Ck} (h : c.dig.length = 16) (rv : Value) (j : Nat) (hj : 17 ≤ j) :
    (c.cells rv)[j]? = [.int .u32 c.print, .int .i64 c.pos.row, .int .i64 c.pos.group, .int .i64 c.pos.unit, .bool c.lost, rv][j - 17]? := by
  obtain ⟨k, rfl⟩ : ∃ k, j = 17 + k := ⟨j - 17, by omega⟩
  rw [show 17 + k = (16 + k) + 1 by omega]
  simp [Ck.cells, List.getElem?_append, h]
  omega
theorem Ck.c17 {c : Ck} (h : c.dig.length = 16) (rv : Value) : (c.cells rv)[17]? = some (.int .u32 c.print) := Ck.ct h rv 17 (by omega)
theorem Ck.c18 {c : Ck} (h : c.dig.length = 16) (rv : Value) : (c.cells rv)[18]? = some (.int .i64 c.pos.row) := Ck.ct h rv 18 (by omega)
theorem Ck.c19 {c : Ck} (h : c.dig.length = 16) (rv : Value) : (c.cells rv)[19]? = some (.int .i64 c.pos.group) := Ck.ct h rv 19 (by omega)
theorem Ck.c20 {c : Ck} (h : c.dig.length = 16) (rv : Value) : (c.cells rv)[20]? = some (.int .i64 c.pos.unit) := Ck.ct h rv 20 (by omega)
theorem Ck.c21 {c : Ck} (h : c.dig.length = 16) (rv : Value) : (c.cells rv)[21]? = some (.bool c.lost) := Ck.ct h rv 21 (by omega)
theorem Ck.c22 {c : Ck} (h : c.dig.length = 16) (rv : Value) : (c.cells rv)[22]? = some rv := Ck.ct h rv 22 (by omega)

/-- rv reads as the references r -/
def Refs (w : World) (rv : Value) (r : List (Int × Int)) : Prop := Own w 113 2 rv (r.map refCells)
/-- lv reads as chunks, each with the value of its references -/
def Chunks (w : World) (lv : Value) (cs : List (Ck × Value)) : Prop :=
  Own w 45 23 lv (cs.map fun p => p.1.cells p.2) ∧ ∀ p ∈ cs, Refs w p.2 p.1.refs

def cksOf (cs : List (Ck × Value)) : List Ck := cs.map (·.1)

/-- the program's table -/
def Tab (w : World) (tb mb : Nat) (lv : Value) (l : List Ck) : Prop :=
  ∃ cs M, w.heap[tb]? = some (.cells #[lv, .map (some mb)] 120 (0, 0)) ∧ Chunks w lv cs ∧ cksOf cs = l ∧ MapIs w mb M ∧ (∀ u, mget M u = atU l u) ∧ Inv l
/-- the reference's table -/
def RTab (w : World) (rb : Nat) (lv : Value) (l : List Ck) : Prop :=
  ∃ cs, w.heap[rb]? = some (.cells #[lv] 34 (0, 0)) ∧ Chunks w lv cs ∧ cksOf cs = l ∧ Inv l

/-- none of the blocks S holds references -/
def NoRefs (w : World) (S : List Nat) : Prop := ∀ b ∈ S, ∀ cur fr, w.heap[b]? ≠ some (.cells cur 113 fr)

theorem Refs.mod {S : List Nat} {w w' : World} (hm : Mod S w w') (hn : NoRefs w S) {rv : Value} {r : List (Int × Int)} (h : Refs w rv r) : Refs w' rv r := by
  refine Own.mod hm h fun b hb hS => ?_
  rcases Own.shape h with ⟨h1, _⟩ | ⟨b', cap, cur, h1, _, _, _, h5, _⟩
  · rw [h1] at hb; simp [Value.ownBlock] at hb
  · rw [h1] at hb; simp [Value.ownBlock] at hb; subst hb
    exact hn _ hS _ _ h5

theorem Chunks.mod {S : List Nat} {w w' : World} (hm : Mod S w w') (hn : NoRefs w S) {lv : Value} {cs : List (Ck × Value)} (h : Chunks w lv cs) (hb : ∀ b, lv.ownBlock = some b → b ∉ S) : Chunks w' lv cs :=
  ⟨Own.mod hm h.1 hb, fun p hp => (h.2 p hp).mod hm hn⟩

theorem Tab.mod {S : List Nat} {w w' : World} (hm : Mod S w w') (hn : NoRefs w S) {tb mb : Nat} {lv : Value} {l : List Ck} (h : Tab w tb mb lv l) (h1 : tb ∉ S) (h2 : mb ∉ S) (hb : ∀ b, lv.ownBlock = some b → b ∉ S) : Tab w' tb mb lv l := by
  obtain ⟨cs, M, a1, a2, a3, a4, a5⟩ := h
  exact ⟨cs, M, hm.heap a1 h1, a2.mod hm hn hb, a3, a4.mod hm h2, a5⟩

theorem RTab.mod {S : List Nat} {w w' : World} (hm : Mod S w w') (hn : NoRefs w S) {rb : Nat} {lv : Value} {l : List Ck} (h : RTab w rb lv l) (h1 : rb ∉ S) (hb : ∀ b, lv.ownBlock = some b → b ∉ S) : RTab w' rb lv l := by
  obtain ⟨cs, a1, a2, a3⟩ := h
  exact ⟨cs, hm.heap a1 h1, a2.mod hm hn hb, a3⟩

theorem NoRefs.one {w : World} {b : Nat} {cur : Array Value} {t : TypeId} {fr : Nat × Nat} (h : w.heap[b]? = some (.cells cur t fr)) (ht : t ≠ 113) : NoRefs w [b] := by
  intro b' hb' cur' fr' h'
  simp at hb'
  subst hb'
  rw [h] at h'
  cases h'
  exact ht rfl
theorem NoRefs.map {w : World} {mb : Nat} {M : List (U3 × Int)} (h : MapIs w mb M) : NoRefs w [mb] := by
  intro b hb cur fr h'
  obtain ⟨es, cl, h1, _⟩ := h
  simp at hb
  subst hb
  rw [h1] at h'
  cases h'
theorem NoRefs.nil (w : World) : NoRefs w [] := fun b hb => by simp at hb
theorem Tab.mod0 {w w' : World} (hm : Mod [] w w') {tb mb : Nat} {lv : Value} {l : List Ck} (h : Tab w tb mb lv l) : Tab w' tb mb lv l := h.mod hm (NoRefs.nil w) (by simp) (by simp) (by simp)
theorem RTab.mod0 {w w' : World} (hm : Mod [] w w') {rb : Nat} {lv : Value} {l : List Ck} (h : RTab w rb lv l) : RTab w' rb lv l := h.mod hm (NoRefs.nil w) (by simp) (by simp)
theorem Refs.mod0 {w w' : World} (hm : Mod [] w w') {rv : Value} {r : List (Int × Int)} (h : Refs w rv r) : Refs w' rv r := h.mod hm (NoRefs.nil w)
theorem Chunks.mod0 {w w' : World} (hm : Mod [] w w') {lv : Value} {cs : List (Ck × Value)} (h : Chunks w lv cs) : Chunks w' lv cs := h.mod hm (NoRefs.nil w) (by simp)

/-- the shape of a slice of chunks, and its rows -/
theorem Chunks.shape {w : World} {lv : Value} {cs : List (Ck × Value)} (h : Chunks w lv cs) :
    (lv = .slice none 0 0 ∧ cs = []) ∨ ∃ b cap, lv = .slice (some ⟨b, 0, none⟩) cs.length cap ∧ b < w.heap.size ∧ cs.length ≤ cap ∧ cap ≤ maxLen ∧
      (∀ k p, cs[k]? = some p → Row w b (k * 23) (p.1.cells p.2)) := by
  have h1 := h.1
  rcases Own.shape h1 with ⟨h2, h3⟩ | ⟨b, cap, cur, h2, h3, h4, h5, h6, h7, h8⟩
  · exact .inl ⟨h2, by simpa using h3⟩
  · rw [List.length_map] at h2 h4
    refine .inr ⟨b, cap, h2, h3, h4, h5, fun k p hp => ?_⟩
    rw [h2] at h1
    exact Own.row h1 k _ (by simp [hp])

theorem Chunks.dig {w : World} {lv : Value} {cs : List (Ck × Value)} (h : Chunks w lv cs) {p : Ck × Value} (hp : p ∈ cs) : p.1.dig.length = 16 := by
  have := h.1.1 (p.1.cells p.2) (List.mem_map.2 ⟨p, hp, rfl⟩)
  rw [Ck.cells_len] at this
  omega

theorem Refs.shape {w : World} {rv : Value} {r : List (Int × Int)} (h : Refs w rv r) :
    (rv = .slice none 0 0 ∧ r = []) ∨ ∃ b cap, rv = .slice (some ⟨b, 0, none⟩) r.length cap ∧ b < w.heap.size ∧ r.length ≤ cap ∧ cap ≤ maxLen ∧
      (∀ k x, r[k]? = some x → Row w b (k * 2) (refCells x)) := by
  have h1 : Own w 113 2 rv (r.map refCells) := h
  rcases Own.shape h1 with ⟨h2, h3⟩ | ⟨b, cap, cur, h2, h3, h4, h5, h6, h7, h8⟩
  · exact .inl ⟨h2, by simpa using h3⟩
  · rw [List.length_map] at h2 h4
    refine .inr ⟨b, cap, h2, h3, h4, h5, fun k p hp => ?_⟩
    rw [h2] at h1
    exact Own.row h1 k _ (by simp [hp])

theorem cksOf_len (cs : List (Ck × Value)) : (cksOf cs).length = cs.length := by simp [cksOf]
theorem cksOf_get {cs : List (Ck × Value)} {k : Nat} {p : Ck × Value} (h : cs[k]? = some p) : (cksOf cs)[k]? = some p.1 := by simp [cksOf, h]
theorem cksOf_get' {cs : List (Ck × Value)} {k : Nat} {c : Ck} (h : (cksOf cs)[k]? = some c) : ∃ rv, cs[k]? = some (c, rv) := by
  simp only [cksOf, List.getElem?_map, Option.map_eq_some_iff] at h
  obtain ⟨p, h1, rfl⟩ := h
  exact ⟨p.2, h1⟩

/-- the chunk at a place that was found: its row and its references -/
theorem Chunks.at {w : World} {b n cap : Nat} {cs : List (Ck × Value)} (h : Chunks w (.slice (some ⟨b, 0, none⟩) n cap) cs) {k : Nat} {c : Ck} (hk : (cksOf cs)[k]? = some c) :
    ∃ rv, cs[k]? = some (c, rv) ∧ Row w b (k * 23) (c.cells rv) ∧ Refs w rv c.refs ∧ c.dig.length = 16 := by
  obtain ⟨rv, hrv⟩ := cksOf_get' hk
  have hm := List.mem_of_getElem? hrv
  rcases h.shape with ⟨h1, _⟩ | ⟨b', cap', h1, _, _, _, hr⟩
  · cases h1
  · cases h1
    exact ⟨rv, hrv, hr k _ hrv, h.2 _ hm, h.dig hm⟩

end Go.Proofs.Ytknkifanpppglaa
