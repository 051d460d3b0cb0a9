/- map[int]T whose elements are read whole, as a plain list of pairs; the type is that of a chunk. -/
import Derived.Test.YtknkifanpppglaaMA
namespace Go.Proofs.Ytknkifanpppglaa
open Go.RowKit

def ifind : List (Int × Value) → Int → Nat → Option (Nat × Value)
  | [], _, _ => none
  | x :: M, u, i => if u = x.1 then some (i, x.2) else ifind M u (i + 1)
def iget (M : List (Int × Value)) (u : Int) : Option Value := (ifind M u 0).map (·.2)
def encI (x : Int × Value) : Value × Value := (.int .i64 x.1, x.2)
def IMap (w : World) (mb : Nat) (M : List (Int × Value)) : Prop :=
  ∃ es clock, w.heap[mb]? = some (.map es clock) ∧ es.toList.map (fun e => (e.key, e.val)) = M.map encI ∧ (M.map (·.1)).Nodup

theorem ifind_some : ∀ {M : List (Int × Value)} {u : Int} {i : Nat} {p : Nat × Value}, ifind M u i = some p → i ≤ p.1 ∧ M[p.1 - i]? = some (u, p.2)
  | [], _, _, _, h => by simp [ifind] at h
  | x :: M, u, i, p, h => by
    unfold ifind at h
    split at h
    · rename_i he
      cases h
      simp [he]
    · have := ifind_some h
      refine ⟨by omega, ?_⟩
      rw [show p.1 - i = (p.1 - (i + 1)) + 1 by omega]
      simpa using this.2

theorem ifind_none : ∀ {M : List (Int × Value)} {u : Int} {i : Nat}, ifind M u i = none ↔ ∀ x ∈ M, x.1 ≠ u
  | [], _, _ => by simp [ifind]
  | x :: M, u, i => by
    unfold ifind
    by_cases he : u = x.1
    · simp [he]
    · rw [if_neg he, ifind_none]
      simp
      intro _ e
      exact he e.symm

theorem findNow_run (u : Int) : ∀ (es : List MapEntry) (M : List (Int × Value)) (i : Nat), es.map (fun e => (e.key, e.val)) = M.map encI →
    Instr.findNow (.int .i64) (.int .i64 u) es i = some (ifind M u i)
  | [], [], i, _ => by simp [Instr.findNow, ifind]
  | [], _ :: _, i, h => by simp at h
  | _ :: _, [], i, h => by simp at h
  | e :: es, x :: M, i, h => by
    simp only [List.map_cons, List.cons.injEq, encI, Prod.mk.injEq] at h
    obtain ⟨⟨h1, h2⟩, h3⟩ := h
    have ih := findNow_run u es M (i + 1) h3
    unfold Instr.findNow ifind
    rw [h1]
    by_cases he : u = x.1
    · subst he
      simp [Instr.sameNow, h2]
    · have hb : (u == x.1) = false := by simpa using he
      simp [Instr.sameNow, he, hb, ih]

theorem findKeyI_run (w : World) (u : Int) (es : List MapEntry) (M : List (Int × Value)) (h : es.map (fun e => (e.key, e.val)) = M.map encI) :
    (Instr.findKey 3 (.int .i64 u) es).run Try.prog w = .ok (ifind M u 0) w := by
  unfold Instr.findKey
  simp only [Sem.run_bind, run_underlying Try.underlying3, Result.andThen_ok, findNow_run u es M 0 h, Sem.run_pure]

theorem checkKeyI (b : Bool) (a : Int) (w : World) : (Instr.checkKey b 10000 3 (.int .i64 a)).run Try.prog w = .ok () w := checkKey_int b 9999 a w

theorem run_lookupI (w : World) (mb : Nat) (M : List (Int × Value)) (u : Int) (v : Value) (hm : IMap w mb M) (hv : iget M u = some v) :
    (Instr.lookup 65 (.map (some mb)) (.int .i64 u) false).run Try.prog w = .ok v w := by
  obtain ⟨es, clock, h1, h2, h3⟩ := hm
  have hg : (getObj mb).run Try.prog w = .ok (.map es clock) w := by simp [getObj, Sem.run, h1]
  have hk := findKeyI_run w u es.toList M h2
  unfold iget at hv
  cases hf : ifind M u 0 with
  | none => rw [hf] at hv; cases hv
  | some p =>
    rw [hf] at hv
    cases hv
    simp [Instr.lookup, run_underlying Try.underlying65, hg, checkKeyI, hk, hf]

theorem sameBitsI (u : Int) : Instr.sameBits 10000 (.int .i64 u) (.int .i64 u) = true := by
  show Instr.sameBits (9998 + 2) _ _ = true
  simp [Instr.sameBits]

theorem getElem_encI {es : Array MapEntry} {M : List (Int × Value)} (h : es.toList.map (fun e => (e.key, e.val)) = M.map encI) {i : Nat} {x : Int × Value} (hx : M[i]? = some x) :
    ∃ e, es[i]? = some e ∧ e.key = .int .i64 x.1 ∧ e.val = x.2 := by
  have h1 := congrArg (fun l => l[i]?) h
  simp only [List.getElem?_map, hx, Option.map_some, encI] at h1
  cases he : es.toList[i]? with
  | none => rw [he] at h1; simp at h1
  | some e =>
    rw [he] at h1
    simp at h1
    exact ⟨e, by simpa using he, h1.1, h1.2⟩

theorem map_modify_encI {es : Array MapEntry} {M : List (Int × Value)} (h : es.toList.map (fun e => (e.key, e.val)) = M.map encI) (i : Nat) (u : Int) (v : Value) :
    (es.modify i fun e => { e with key := .int .i64 u, val := v }).toList.map (fun e => (e.key, e.val)) = (M.set i (u, v)).map encI := by
  apply List.ext_getElem?
  intro j
  have h1 := congrArg (fun l => l[j]?) h
  simp only [List.getElem?_map] at h1 ⊢
  rw [List.getElem?_set, Array.getElem?_toList, Array.getElem?_modify]
  rw [Array.getElem?_toList] at h1
  have hlen : es.size = M.length := by have := congrArg List.length h; simpa using this
  by_cases hij : i = j
  · subst hij
    by_cases hi : i < M.length
    · rw [if_pos rfl, if_pos rfl, if_pos hi, Array.getElem?_eq_getElem (by omega)]
      simp [encI]
    · rw [if_pos rfl, if_pos rfl, if_neg hi, Array.getElem?_eq_none (by omega)]
      simp
  · rw [if_neg hij, if_neg hij]
    exact h1

/-- a key that is new -/
theorem run_mapUpdateI_new (w : World) (mb : Nat) (M : List (Int × Value)) (u : Int) (v : Value) (hm : IMap w mb M) (hn : ∀ x ∈ M, x.1 ≠ u) :
    ∃ w', (Instr.mapUpdate 65 (.map (some mb)) (.int .i64 u) v).run Try.prog w = .ok () w' ∧ IMap w' mb (M ++ [(u, v)]) ∧ Mod [mb] w w' := by
  obtain ⟨es, clock, h1, h2, h3⟩ := hm
  have hg : (getObj mb).run Try.prog w = .ok (.map es clock) w := by simp [getObj, Sem.run, h1]
  have hk := findKeyI_run w u es.toList M h2
  have hs : ∀ o, (setObj mb o).run Try.prog w = .ok () { w with heap := w.heap.setIfInBounds mb o } := by intro o; simp [setObj, Sem.run, h1]
  have hlt := lt_of_heap h1
  have hheap : ∀ o, ({ w with heap := w.heap.setIfInBounds mb o } : World).heap[mb]? = some o := by
    intro o
    simp [hlt]
  have hmod : ∀ o, Mod [mb] w { w with heap := w.heap.setIfInBounds mb o } := fun o => ⟨rfl, rfl, rfl, by simp, fun k _ hk => by
    have : mb ≠ k := by simp at hk; exact fun e => hk e.symm
    simp [Array.getElem?_setIfInBounds_ne this]⟩
  have hf : ifind M u 0 = none := ifind_none.2 hn
  refine ⟨_, by simp [Instr.mapUpdate, run_underlying Try.underlying65, hg, checkKeyI, hk, hf, hs]; rfl, ⟨_, _, hheap _, ?_, ?_⟩, hmod _⟩
  · simp [h2, encI]
  · simp only [List.map_append, List.map_cons, List.map_nil]
    rw [List.nodup_append]
    refine ⟨h3, by simp, ?_⟩
    intro a ha b hb e
    simp at hb
    obtain ⟨x, hx, rfl⟩ := List.mem_map.1 ha
    exact hn x hx (by rw [e, hb])

theorem nodup_get {M : List (Int × Value)} (h : (M.map (·.1)).Nodup) {i j : Nat} {a b : Int × Value} (ha : M[i]? = some a) (hb : M[j]? = some b) (e : a.1 = b.1) : i = j := by
  have hi := (List.getElem?_eq_some_iff.1 ha).1
  have hj := (List.getElem?_eq_some_iff.1 hb).1
  have h1 : (M.map (·.1))[i]? = some a.1 := by simp [ha]
  have h2 : (M.map (·.1))[j]? = some a.1 := by rw [e]; simp [hb]
  exact (List.getElem?_inj (by simpa using hi) h).1 (h1.trans h2.symm)

theorem ifind_at {M : List (Int × Value)} (h : (M.map (·.1)).Nodup) {k : Nat} {u : Int} {v : Value} (hk : M[k]? = some (u, v)) : ifind M u 0 = some (k, v) := by
  cases hf : ifind M u 0 with
  | none => exact absurd rfl (ifind_none.1 hf _ (List.mem_of_getElem? hk))
  | some p =>
    obtain ⟨_, hp⟩ := ifind_some hf
    rw [Nat.sub_zero] at hp
    have := nodup_get h hk hp rfl
    subst this
    rw [hk] at hp
    cases hp
    rfl

theorem iget_at {w : World} {mb : Nat} {M : List (Int × Value)} (h : IMap w mb M) {k : Nat} {u : Int} {v : Value} (hk : M[k]? = some (u, v)) : iget M u = some v := by
  obtain ⟨_, _, _, _, h3⟩ := h
  simp [iget, ifind_at h3 hk]

/-- a key that is there -/
theorem run_mapUpdateI_old (w : World) (mb : Nat) (M : List (Int × Value)) (u : Int) (v v0 : Value) (k : Nat) (hm : IMap w mb M) (hk0 : M[k]? = some (u, v0)) :
    ∃ w', (Instr.mapUpdate 65 (.map (some mb)) (.int .i64 u) v).run Try.prog w = .ok () w' ∧ IMap w' mb (M.set k (u, v)) ∧ Mod [mb] w w' := by
  obtain ⟨es, clock, h1, h2, h3⟩ := hm
  have hg : (getObj mb).run Try.prog w = .ok (.map es clock) w := by simp [getObj, Sem.run, h1]
  have hk := findKeyI_run w u es.toList M h2
  have hs : ∀ o, (setObj mb o).run Try.prog w = .ok () { w with heap := w.heap.setIfInBounds mb o } := by intro o; simp [setObj, Sem.run, h1]
  have hlt := lt_of_heap h1
  have hheap : ∀ o, ({ w with heap := w.heap.setIfInBounds mb o } : World).heap[mb]? = some o := by
    intro o
    simp [hlt]
  have hmod : ∀ o, Mod [mb] w { w with heap := w.heap.setIfInBounds mb o } := fun o => ⟨rfl, rfl, rfl, by simp, fun k _ hk => by
    have : mb ≠ k := by simp at hk; exact fun e => hk e.symm
    simp [Array.getElem?_setIfInBounds_ne this]⟩
  have hf := ifind_at h3 hk0
  obtain ⟨e, he1, he2, he3⟩ := getElem_encI h2 hk0
  have hkt : (Instr.keyThatStays (.int .i64 u) (.int .i64 u)).run Try.prog w = .ok (.int .i64 u) w := by simp [Instr.keyThatStays, sameBitsI]
  refine ⟨_, by simp [Instr.mapUpdate, run_underlying Try.underlying65, hg, checkKeyI, hk, hf, he1, he2, hkt, hs]; rfl, ⟨_, _, hheap _, ?_, ?_⟩, hmod _⟩
  · exact map_modify_encI h2 k u v
  · have : (M.set k (u, v)).map (·.1) = M.map (·.1) := by
      apply List.ext_getElem?
      intro j
      simp only [List.getElem?_map, List.getElem?_set]
      split
      · rename_i e; subst e
        rw [hk0]
        split
        · rfl
        · rename_i hn; exact absurd (List.getElem?_eq_some_iff.1 hk0).1 hn
      · rfl
    rw [this]; exact h3

theorem IMap.mod {S : List Nat} {w w' : World} (hm : Mod S w w') {mb : Nat} {M : List (Int × Value)} (h : IMap w mb M) (hb : mb ∉ S) : IMap w' mb M := by
  obtain ⟨es, clock, h1, h2⟩ := h
  exact ⟨es, clock, hm.heap h1 hb, h2⟩

theorem wpList_mapUpdateI {ops : Array Oper} {rest : List Oper} {o : Oper} {a : Act} {w : World} {Q : Exit → Act → World → Prop} (hw : Region.wanted o (yielded ops a.tmps) = true) (m k v : Operand)
    (hop : o.op = .mapUpdate 65 m k v) (mb : Nat) (u : Int) (x : Value) (hm : a.eval m = .map (some mb)) (hk : a.eval k = .int .i64 u) (hv : a.eval v = x) (N : List (Int × Value))
    (hr : ∃ w', (Instr.mapUpdate 65 (.map (some mb)) (.int .i64 u) x).run Try.prog w = .ok () w' ∧ IMap w' mb N ∧ Mod [mb] w w')
    (h : ∀ w', IMap w' mb N → Mod [mb] w w' → wpList Try.prog ops Q rest (a.put o.dst undef) w') : wpList Try.prog ops Q (o :: rest) a w :=
  wpList_wanted hw fun _ hK => by
    obtain ⟨w', hr, h2, h3⟩ := hr
    unfold Oper.wp execOp
    simp only [hop, hm, hk, hv, Sem.run_bind, Sem.run_pure, Result.andThen_ok, hr]
    exact hK _ _ (h w' h2 h3)

end Go.Proofs.Ytknkifanpppglaa
