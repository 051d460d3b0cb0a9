/- The law ChunksHeal: what Lose and Move to a free unit do to the list, and the law's map of old chunks. -/
import Derived.Test.YtknkifanpppglaaIMap
import Derived.Test.YtknkifanpppglaaMF
namespace Go.Proofs.Ytknkifanpppglaa
open Go.RowKit

theorem heal_plain {l : List Ck} (h : Inv l) {id : Int} {c : Ck} (hg : getC l id = some c) {u : U3} (hu : u.ok = true) (hf : atU l u = none) :
    ∃ k, l[k]? = some c ∧ c.id = id ∧ loseL l id = (l.set k { c with pos := zeroU, lost := true }, 0) ∧ Inv (l.set k { c with pos := zeroU, lost := true }) ∧
      moveL (l.set k { c with pos := zeroU, lost := true }) id u = (l.set k { c with pos := u, lost := false }, 0) ∧ getC (l.set k { c with pos := zeroU, lost := true }) id = some { c with pos := zeroU, lost := true } ∧
      Inv (l.set k { c with pos := u, lost := false }) := by
  rw [getC_idx] at hg
  cases hi : idxOf l id with
  | none => rw [hi] at hg; cases hg
  | some k =>
    rw [hi] at hg
    have hk : l[k]? = some c := hg
    obtain ⟨d, hd, hid, _⟩ := idxOf_some.1 hi
    rw [hk] at hd
    cases hd
    subst hid
    have hlt := (List.getElem?_eq_some_iff.1 hk).1
    have hinv := inv_lose h hk
    have hk1 : (l.set k { c with pos := zeroU, lost := true })[k]? = some { c with pos := zeroU, lost := true } := by simp [hlt]
    have hi1 : idxOf (l.set k { c with pos := zeroU, lost := true }) c.id = some k := by have := idxOf_at hinv hk1; exact this
    have hf1 : atU (l.set k { c with pos := zeroU, lost := true }) u = none := by
      cases ha : atU (l.set k { c with pos := zeroU, lost := true }) u with
      | none => rfl
      | some i =>
        obtain ⟨j, d, h1, h2, h3, h4⟩ := (atU_iff hinv).1 ha
        rw [get_set hk] at h1
        by_cases e : j = k
        · rw [if_pos e] at h1
          cases h1
          cases h2
        · rw [if_neg e] at h1
          have := (atU_iff h).2 ⟨j, d, h1, h2, h3, h4⟩
          rw [hf] at this
          cases this
    refine ⟨k, hk, rfl, ?_, hinv, ?_, ?_, ?_⟩
    · simp [loseL, hi, hk]
    · simp only [moveL, hi1, hu, hf1, hk1]
      simp
    · rw [getC_idx, hi1]; exact hk1
    · exact inv_move h hk hu (fun i hi' => by rw [hf] at hi'; cases hi')

/-- the map of the old chunks -/
def OldIs (w : World) (mp : Nat) (l : List Ck) : Prop :=
  ∃ M, IMap w mp M ∧ M.length = l.length ∧ ∀ (j : Nat) (c : Ck), l[j]? = some c → ∃ rv, M[j]? = some (c.id, .agg (c.cells rv).toArray) ∧ Refs w rv c.refs ∧ c.dig.length = 16

theorem NoRefs.imap {w : World} {mp : Nat} {M : List (Int × Value)} (h : IMap w mp M) : NoRefs w [mp] := by
  intro b hb cur fr h'
  obtain ⟨es, cl, h1, _⟩ := h
  simp at hb
  subst hb
  rw [h1] at h'
  cases h'

theorem OldIs.noRefs {w : World} {mp : Nat} {l : List Ck} (h : OldIs w mp l) : NoRefs w [mp] := by
  obtain ⟨M, h1, _⟩ := h
  exact NoRefs.imap h1

theorem OldIs.lt {w : World} {mp : Nat} {l : List Ck} (h : OldIs w mp l) : mp < w.heap.size := by
  obtain ⟨M, ⟨es, cl, h1, _⟩, _⟩ := h
  exact lt_of_heap h1

theorem OldIs.mod {S : List Nat} {w w' : World} (hm : Mod S w w') (hn : NoRefs w S) {mp : Nat} {l : List Ck} (h : OldIs w mp l) (hb : mp ∉ S) : OldIs w' mp l := by
  obtain ⟨M, h1, h2, h3⟩ := h
  refine ⟨M, h1.mod hm hb, h2, fun j c hj => ?_⟩
  obtain ⟨rv, a1, a2, a3⟩ := h3 j c hj
  exact ⟨rv, a1, a2.mod hm hn, a3⟩

theorem OldIs.mod0 {w w' : World} (hm : Mod [] w w') {mp : Nat} {l : List Ck} (h : OldIs w mp l) : OldIs w' mp l := h.mod hm (NoRefs.nil w) (by simp)

theorem OldIs.start (w : World) : OldIs (w.alloc (.map #[] 0)) w.heap.size [] :=
  ⟨[], ⟨#[], 0, heap_alloc_at w _, rfl, by simp⟩, rfl, fun j c h => by simp at h⟩

theorem OldIs.add {w : World} {mp : Nat} {l : List Ck} (h : OldIs w mp l) {c : Ck} (hnew : ∀ d ∈ l, d.id ≠ c.id) {rv : Value} (hr : Refs w rv c.refs) (hd : c.dig.length = 16) :
    ∃ w', (Instr.mapUpdate 65 (.map (some mp)) (.int .i64 c.id) (.agg (c.cells rv).toArray)).run Try.prog w = .ok () w' ∧ OldIs w' mp (l ++ [c]) ∧ Mod [mp] w w' := by
  have hn := h.noRefs
  obtain ⟨M, h1, h2, h3⟩ := h
  obtain ⟨w', e, h4, hm⟩ := run_mapUpdateI_new w mp M c.id (.agg (c.cells rv).toArray) h1 (fun x hx => by
    obtain ⟨j, hj⟩ := List.getElem?_of_mem hx
    have hlt := (List.getElem?_eq_some_iff.1 hj).1
    obtain ⟨rv', a1, _, _⟩ := h3 j l[j] (List.getElem?_eq_getElem (by omega))
    rw [hj] at a1
    cases a1
    exact hnew _ (List.getElem_mem _))
  refine ⟨w', e, ⟨_, h4, by simp [h2], fun j d hj => ?_⟩, hm⟩
  by_cases hjl : j < l.length
  · rw [List.getElem?_append_left hjl] at hj
    obtain ⟨rv', a1, a2, a3⟩ := h3 j d hj
    exact ⟨rv', by rw [List.getElem?_append_left (by omega)]; exact a1, a2.mod hm hn, a3⟩
  · rw [List.getElem?_append_right (by omega)] at hj
    have e0 : j - l.length = 0 := by
      have := (List.getElem?_eq_some_iff.1 hj).1
      simp at this; omega
    rw [e0] at hj
    simp at hj
    subst hj
    exact ⟨rv, by rw [List.getElem?_append_right (by omega), h2, e0]; rfl, hr.mod hm hn, hd⟩

theorem OldIs.put {w : World} {mp : Nat} {l : List Ck} (h : OldIs w mp l) {k : Nat} {c c' : Ck} (hk : l[k]? = some c) (hid : c'.id = c.id) {rv : Value} (hr : Refs w rv c'.refs) (hd : c'.dig.length = 16) :
    ∃ w', (Instr.mapUpdate 65 (.map (some mp)) (.int .i64 c.id) (.agg (c'.cells rv).toArray)).run Try.prog w = .ok () w' ∧ OldIs w' mp (l.set k c') ∧ Mod [mp] w w' := by
  have hn := h.noRefs
  obtain ⟨M, h1, h2, h3⟩ := h
  obtain ⟨rv0, a0, _⟩ := h3 k c hk
  obtain ⟨w', e, h4, hm⟩ := run_mapUpdateI_old w mp M c.id (.agg (c'.cells rv).toArray) _ k h1 a0
  refine ⟨w', e, ⟨_, h4, by simp [h2], fun j d hj => ?_⟩, hm⟩
  rw [get_set hk] at hj
  by_cases e : j = k
  · subst e
    rw [if_pos rfl] at hj
    cases hj
    exact ⟨rv, by have := (List.getElem?_eq_some_iff.1 hk).1; simp [h2, this, hid], hr.mod hm hn, hd⟩
  · rw [if_neg e] at hj
    obtain ⟨rv', a1, a2, a3⟩ := h3 j d hj
    exact ⟨rv', by rw [List.getElem?_set, if_neg (fun x => e x.symm)]; exact a1, a2.mod hm hn, a3⟩

theorem OldIs.get {w : World} {mp : Nat} {l : List Ck} (h : OldIs w mp l) {k : Nat} {c : Ck} (hk : l[k]? = some c) :
    ∃ rv, (Instr.lookup 65 (.map (some mp)) (.int .i64 c.id) false).run Try.prog w = .ok (.agg (c.cells rv).toArray) w ∧ Refs w rv c.refs := by
  obtain ⟨M, h1, h2, h3⟩ := h
  obtain ⟨rv, a1, a2, _⟩ := h3 k c hk
  exact ⟨rv, run_lookupI w mp M c.id _ h1 (iget_at h1 a1), a2⟩

theorem OldIs.len {w : World} {mp : Nat} {l : List Ck} (h : OldIs w mp l) (ty : TypeId) : (Builtin.len_ #[65] ty #[.map (some mp)]).run Try.prog w = .ok (.int .i64 l.length) w := by
  obtain ⟨M, ⟨es, cl, h1, h4, _⟩, h2, _⟩ := h
  have hs : es.size = l.length := by rw [← h2]; have := congrArg List.length h4; simpa using this
  have hg : (getObj mp).run Try.prog w = .ok (.map es cl) w := by simp [getObj, Sem.run, h1]
  simp [Builtin.len_, run_underlying Try.underlying65, hg, Result.andThen, goInt, hs]

theorem OT.mod1 {w0 w w' : World} {tb mb : Nat} {lv : Value} {l : List Ck} {K : List Nat} (h : OT w0 w tb mb lv l K) {b : Nat} (hb : b ∈ K) (h0 : w0.heap.size ≤ b) (hn : NoRefs w [b]) (hm : Mod [b] w w') : OT w0 w' tb mb lv l K := by
  have hk := (h.keep b hb).1
  simp only [foot, List.mem_cons, Option.mem_toList, not_or] at hk
  exact ⟨h.tab.mod hm hn (by simpa using fun e => hk.1 e.symm) (by simpa using fun e => hk.2.1 e.symm) (fun x hx => by simp; intro e; subst e; exact hk.2.2 hx), h.mod.trans hm (by simpa using h0), h.tb0, h.mb0, h.lv0, fun x hx => ⟨(h.keep x hx).1, Nat.lt_of_lt_of_le (h.keep x hx).2 hm.size⟩⟩

/-- the law's variables: the unit, the chunk, the map of old chunks -/
structure HealSt (w0 w : World) (tb mb : Nat) (lv : Value) (l : List Ck) (ub cb mp : Nat) (u : U3) (c : Ck) (rv : Value) (ol : List Ck) : Prop where
  ot : OT w0 w tb mb lv l [ub, cb, mp]
  u : Row w ub 0 u.cells
  cell : w.heap[cb]? = some (.cells (c.cells rv).toArray 45 (0, 0))
  ref : Refs w rv c.refs
  old : OldIs w mp ol
  c0 : w0.heap.size ≤ cb
  m0 : w0.heap.size ≤ mp
  ne : ub ≠ cb ∧ ub ≠ mp ∧ cb ≠ mp

section
variable {w0 w w' : World} {tb mb : Nat} {lv : Value} {l : List Ck} {ub cb mp : Nat} {u : U3} {c : Ck} {rv : Value} {ol : List Ck}

theorem HealSt.same (h : HealSt w0 w tb mb lv l ub cb mp u c rv ol) (hm : Mod [] w w') : HealSt w0 w' tb mb lv l ub cb mp u c rv ol :=
  ⟨(h.ot.same hm).1, h.u.mod hm (by simp), hm.heap h.cell (by simp), h.ref.mod0 hm, h.old.mod0 hm, h.c0, h.m0, h.ne⟩

theorem HealSt.op (h : HealSt w0 w tb mb lv l ub cb mp u c rv ol) {l' : List Ck} {v : Value} {e : Ending} (hp : TabPost tb mb lv l' v w e w') :
    e = .returned v ∧ ∃ lv', HealSt w0 w' tb mb lv' l' ub cb mp u c rv ol := by
  obtain ⟨h1, ⟨lv', h2⟩, h3, h4, h5⟩ := h.ot.op hp
  refine ⟨h1, lv', h2, h3.row h.u (by simp), h3.heap h.cell (by simp), h4 _ _ h.ref, ?_, h.c0, h.m0, h.ne⟩
  obtain ⟨M, ⟨es, cl, a1, a2⟩, a3, a4⟩ := h.old
  refine ⟨M, ⟨es, cl, h3.heap a1 (by simp), a2⟩, a3, fun j d hj => ?_⟩
  obtain ⟨rv', b1, b2, b3⟩ := a4 j d hj
  exact ⟨rv', b1, h4 _ _ b2, b3⟩

theorem HealSt.map (h : HealSt w0 w tb mb lv l ub cb mp u c rv ol) (hm : Mod [mp] w w') {ol' : List Ck} (ho : OldIs w' mp ol') : HealSt w0 w' tb mb lv l ub cb mp u c rv ol' :=
  ⟨h.ot.mod1 (by simp) h.m0 h.old.noRefs hm, h.u.mod hm (by simpa using h.ne.2.1), hm.heap h.cell (by simpa using h.ne.2.2), h.ref.mod hm h.old.noRefs, ho, h.c0, h.m0, h.ne⟩

theorem HealSt.var (h : HealSt w0 w tb mb lv l ub cb mp u c rv ol) (hm : Mod [cb] w w') {c' : Ck} (hc : w'.heap[cb]? = some (.cells (c'.cells rv).toArray 45 (0, 0))) (hr : c'.refs = c.refs) : HealSt w0 w' tb mb lv l ub cb mp u c' rv ol := by
  have hn : NoRefs w [cb] := NoRefs.one h.cell (by decide)
  exact ⟨h.ot.mod1 (by simp) h.c0 hn hm, h.u.mod hm (by simpa using h.ne.1), hc, by rw [hr]; exact h.ref.mod hm hn, h.old.mod hm hn (by simpa using fun e => h.ne.2.2 e.symm), h.c0, h.m0, h.ne⟩

theorem HealSt.inv (h : HealSt w0 w tb mb lv l ub cb mp u c rv ol) : Inv l := h.ot.inv
end

theorem wpList_mapUpdateC {ops : Array Oper} {rest : List Oper} {o : Oper} {a : Act} {w : World} {Q : Exit → Act → World → Prop} (hw : Region.wanted o (yielded ops a.tmps) = true) (m k v : Operand)
    (hop : o.op = .mapUpdate 65 m k v) (mb : Nat) (u : Int) (x : Value) (hm : a.eval m = .map (some mb)) (hk : a.eval k = .int .i64 u) (hv : a.eval v = x) (R : World → Prop)
    (hr : ∃ w', (Instr.mapUpdate 65 (.map (some mb)) (.int .i64 u) x).run Try.prog w = .ok () w' ∧ R w')
    (h : ∀ w', R w' → wpList Try.prog ops Q rest (a.put o.dst undef) w') : wpList Try.prog ops Q (o :: rest) a w :=
  wpList_wanted hw fun _ hK => by
    obtain ⟨w', hr, h2⟩ := hr
    unfold Oper.wp execOp
    simp only [hop, hm, hk, hv, Sem.run_bind, Sem.run_pure, Result.andThen_ok, hr]
    exact hK _ _ (h w' h2)

end Go.Proofs.Ytknkifanpppglaa
