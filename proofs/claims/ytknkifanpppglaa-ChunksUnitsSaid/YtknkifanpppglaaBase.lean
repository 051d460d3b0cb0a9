/- Base lemmas about worlds: which blocks a step may change, rows of cells, slices that own their row. No program in this text. -/
import Derived.WalkKit
import Derived.Lib.Hide
import Derived.Laws.CopyOwn
import Derived.Deep.Draws
namespace Go.Proofs.Ytknkifanpppglaa
open Go.RowKit

/-- Old blocks outside S are as they were. -/
structure Mod (S : List Nat) (w w' : World) : Prop where
  os : w'.os = w.os
  tape : w'.tape = w.tape
  output : w'.output = w.output
  size : w.heap.size ≤ w'.heap.size
  block : ∀ k, k < w.heap.size → k ∉ S → w'.heap[k]? = w.heap[k]?

theorem Mod.refl (S : List Nat) (w : World) : Mod S w w := ⟨rfl, rfl, rfl, Nat.le_refl _, fun _ _ _ => rfl⟩

theorem Mod.mono {S S' : List Nat} {w w' : World} (h : Mod S w w') (hs : ∀ k ∈ S, k ∈ S') : Mod S' w w' :=
  ⟨h.os, h.tape, h.output, h.size, fun k hk hn => h.block k hk (fun hm => hn (hs k hm))⟩

theorem Mod.nil {S : List Nat} {w w' : World} (h : Mod [] w w') : Mod S w w' := h.mono (by simp)

/-- Two steps; what the second may change lies in S or is new since the first began. -/
theorem Mod.trans {S S' : List Nat} {a b c : World} (h : Mod S a b) (k : Mod S' b c) (hs : ∀ x ∈ S', x ∈ S ∨ a.heap.size ≤ x) : Mod S a c :=
  ⟨k.os.trans h.os, k.tape.trans h.tape, k.output.trans h.output, Nat.le_trans h.size k.size, fun i hi hn =>
    (k.block i (Nat.lt_of_lt_of_le hi h.size) (fun hm => by
      rcases hs i hm with h1 | h1
      · exact hn h1
      · omega)).trans (h.block i hi hn)⟩

theorem Mod.trans_nil {S : List Nat} {a b c : World} (h : Mod S a b) (k : Mod [] b c) : Mod S a c := h.trans k (by simp)

theorem Mod.alloc {S : List Nat} {a w : World} (h : Mod S a w) (o : Obj) : Mod S a (w.alloc o) :=
  h.trans_nil ⟨rfl, rfl, rfl, by simp, fun k hk _ => Below.heap_alloc w o k hk⟩

theorem Mod.drew {S : List Nat} {a w : World} (h : Mod S a w) : Mod S a w.drew := h.trans_nil ⟨rfl, rfl, rfl, Nat.le_refl _, fun _ _ _ => rfl⟩
theorem Mod.drewN {S : List Nat} {a w : World} (h : Mod S a w) (n : Nat) : Mod S a (w.drewN n) := h.trans_nil ⟨rfl, rfl, rfl, Nat.le_refl _, fun _ _ _ => rfl⟩

theorem Mod.setCell {S : List Nat} {a w : World} (h : Mod S a w) (p : Addr) (v : Value) (hp : p.block ∈ S ∨ a.heap.size ≤ p.block) : Mod S a (w.setCell p v) :=
  h.trans (S' := [p.block]) ⟨rfl, rfl, rfl, by simp, fun k _ hk => heap_setCell_other w p k v (by simpa using hk)⟩ (by simpa using hp)

theorem Mod.setRow {S : List Nat} {a w : World} (h : Mod S a w) (g : Nat) (cs : Array Value) (hp : g ∈ S ∨ a.heap.size ≤ g) : Mod S a (w.setRow g cs) :=
  h.trans (S' := [g]) ⟨rfl, rfl, rfl, by simp, fun k _ hk => setRow_other w g k cs (by simpa using hk)⟩ (by simpa using hp)

theorem Mod.grown {S : List Nat} {a w w' : World} {row : Option Nat} (h : Mod S a w) (hg : w.grownBy w' row) (hr : ∀ k, row = some k → k ∈ S ∨ a.heap.size ≤ k) : Mod S a w' :=
  h.trans (S' := row.toList) ⟨hg.os, hg.tape, hg.output, hg.size, fun k hk hn => hg.block k hk (by cases row <;> simp_all)⟩ (by intro x hx; cases row <;> simp_all)

theorem Mod.below {a w : World} (h : Mod [] a w) : Below a.heap.size a w := ⟨h.os, h.tape, h.output, h.size, fun k hk => h.block k hk (by simp)⟩
theorem Mod.of_below {a w : World} (h : Below a.heap.size a w) : Mod [] a w := ⟨h.os, h.tape, h.output, h.size, fun k hk _ => h.block k hk⟩

theorem Mod.cell {S : List Nat} {w w' : World} (h : Mod S w w') {b o : Nat} {v : Value} (hc : w.cell? ⟨b, o, none⟩ = some v) (hb : b ∉ S) : w'.cell? ⟨b, o, none⟩ = some v := by
  have hlt := Go.block_lt_of_cell hc
  rw [World.cell?_of_block (w := w) (h.block b hlt hb)]; exact hc

theorem Mod.heap {S : List Nat} {w w' : World} (h : Mod S w w') {b : Nat} {o : Obj} (hc : w.heap[b]? = some o) (hb : b ∉ S) : w'.heap[b]? = some o := by
  rw [h.block b (Array.getElem?_eq_some_iff.1 hc).1 hb]; exact hc

theorem lt_of_heap {w : World} {b : Nat} {o : Obj} (hc : w.heap[b]? = some o) : b < w.heap.size := (Array.getElem?_eq_some_iff.1 hc).1

/-- The cells from ⟨b, off⟩ on are cs. -/
def Row (w : World) (b off : Nat) (cs : List Value) : Prop := ∀ j u, cs[j]? = some u → w.cell? ⟨b, off + j, none⟩ = some u

theorem Row.mod {S : List Nat} {w w' : World} (h : Mod S w w') {b off : Nat} {cs : List Value} (hr : Row w b off cs) (hb : b ∉ S) : Row w' b off cs :=
  fun j u hu => h.cell (hr j u hu) hb

theorem Row.at {w : World} {b off : Nat} {cs : List Value} (hr : Row w b off cs) (j : Nat) (u : Value) (hu : cs[j]? = some u) : w.cell? ⟨b, off + j, none⟩ = some u := hr j u hu
theorem Row.at0 {w : World} {b off : Nat} {cs : List Value} (hr : Row w b off cs) (u : Value) (hu : cs[0]? = some u) : w.cell? ⟨b, off, none⟩ = some u := hr 0 u hu

theorem Row.of_heap {w : World} {b : Nat} {cs : List Value} {t : TypeId} {fr : Nat × Nat} (h : w.heap[b]? = some (.cells cs.toArray t fr)) : Row w b 0 cs := by
  intro j u hu
  rw [cell_of_row w b (0 + j) _ t fr h]
  simpa using hu

theorem addr_add (b o j : Nat) : (⟨b, o, none⟩ : Addr).add j = ⟨b, o + j, none⟩ := by unfold Addr.add; split <;> simp_all

theorem run_loadVar_at {P : Program} (w : World) (b off : Nat) (ty : TypeId) (cs : List Value) (d : TypeDesc) (hr : Row w b off cs)
    (hu : P.underlying ty = some d) (hd : (match d with | .struct _ | .array _ _ => true | _ => false) = true) (hi : (P.info? ty).map (·.size) = some cs.length) :
    (loadVar ty ⟨b, off, none⟩).run P w = .ok (.agg cs.toArray) w := by
  have hl : (loadCells ⟨b, off, none⟩ cs.length).run P w = .ok cs.toArray w :=
    run_loadCells_list (P := P) w ⟨b, off, none⟩ cs (fun j v hv => by rw [addr_add]; exact hr j v hv)
  cases hq : P.info? ty with
  | none => simp [hq] at hi
  | some i =>
    have hs : i.size = cs.length := by simpa [hq] using hi
    have hagg : (isAgg ty).run P w = .ok true w := by
      unfold isAgg
      rw [Sem.run_bind, run_underlying hu w]
      cases d <;> simp_all
    simp [loadVar, Sem.run_bind, hagg, sizeOf, typeInfo, hq, hs, hl]

theorem wpList_wanted {P : Program} {ops : Array Oper} {rest : List Oper} {o : Oper} {a : Act} {w : World} {Q : Exit → Act → World → Prop} (hw : Region.wanted o (yielded ops a.tmps) = true)
    (h : ∀ K : Act → World → Prop, (∀ a w, wpList P ops Q rest a w → K a w) → o.wp P a w K Q) : wpList P ops Q (o :: rest) a w :=
  wpList_step fun K hK => by rw [if_pos hw]; exact h K hK

/-- A struct or an array is read whole. -/
theorem wpList_load_at {P : Program} {ops : Array Oper} {rest : List Oper} {o : Oper} {a : Act} {w : World} {Q : Exit → Act → World → Prop} (hw : Region.wanted o (yielded ops a.tmps) = true) (ty : TypeId) (x : Operand) (ho : o.op = .load ty x)
    (d : TypeDesc) (hu : P.underlying ty = some d) (hd : (match d with | .struct _ | .array _ _ => true | _ => false) = true) (n : Nat) (hi : (P.info? ty).map (·.size) = some n)
    (b off : Nat) (cs : List Value) (hx : a.eval x = .pointer (some ⟨b, off, none⟩)) (hr : Row w b off cs) (hn : cs.length = n)
    (h : wpList P ops Q rest (a.put o.dst (.agg cs.toArray)) w) : wpList P ops Q (o :: rest) a w :=
  wpList_wanted hw fun _ hK => by
    unfold Oper.wp execOp
    simp only [ho, hx, Instr.loadAt, Instr.sureAddr, Sem.run_bind, Sem.run_pure, Result.andThen_ok, run_loadVar_at w b off ty cs d hr hu hd (by rw [hi, hn])]
    exact hK _ _ h

theorem oneCell_mem {cs : List Value} (h : ∀ u ∈ cs, u.oneCell' = true) : ∀ u ∈ cs, u.oneCell' = true := h

theorem run_storeVar_at {P : Program} (w : World) (b off : Nat) (ty t : TypeId) (cur cs : List Value) (hb : w.heap[b]? = some (.cells cur.toArray t (0, 0)))
    (hi : (P.info? ty).map (·.size) = some cs.length) (h1 : ∀ u ∈ cs, u.oneCell' = true) (hf : off + cs.length ≤ cur.length) :
    (storeVar ty ⟨b, off, none⟩ (.agg cs.toArray)).run P w = .ok () (w.setRow b (splice cur off cs).toArray) := by
  cases hq : P.info? ty with
  | none => simp [hq] at hi
  | some i =>
    have hs : i.size = cs.length := by simpa [hq] using hi
    have hst := run_storeCells_at (P := P) b off t cs 0 cur.toArray w hb (by simpa using hf) h1
    simp [storeVar, Sem.run_bind, sizeOf, typeInfo, hq, hs, Value.cells]
    simpa [splice] using hst

/-- A struct or an array is stored whole into a block that is known whole. -/
theorem wpList_store_at {P : Program} {ops : Array Oper} {rest : List Oper} {o : Oper} {a : Act} {w : World} {Q : Exit → Act → World → Prop} (hw : Region.wanted o (yielded ops a.tmps) = true) (ty : TypeId) (x v : Operand) (ho : o.op = .store ty x v)
    (n : Nat) (hi : (P.info? ty).map (·.size) = some n) (b off : Nat) (t : TypeId) (cur cs : List Value) (hx : a.eval x = .pointer (some ⟨b, off, none⟩)) (hv : a.eval v = .agg cs.toArray)
    (hb : w.heap[b]? = some (.cells cur.toArray t (0, 0))) (hn : cs.length = n) (h1 : ∀ u ∈ cs, u.oneCell' = true) (hf : off + cs.length ≤ cur.length)
    (h : ∀ w', w'.heap[b]? = some (.cells (splice cur off cs).toArray t (0, 0)) → Mod [b] w w' → wpList P ops Q rest (a.put o.dst undef) w') : wpList P ops Q (o :: rest) a w :=
  wpList_wanted hw fun _ hK => by
    unfold Oper.wp execOp
    simp only [ho, hx, hv, Instr.storeAt, Instr.sureAddr, Sem.run_bind, Sem.run_pure, Result.andThen_ok, run_storeVar_at w b off ty t cur cs hb (by rw [hi, hn]) h1 hf]
    exact hK _ _ (h _ (setRow_heap w b _ _ t _ hb) ((Mod.refl _ _).setRow _ _ (by simp)))

/-- A one-cell value is stored into a block that is known whole. -/
theorem wpList_store1 {P : Program} {ops : Array Oper} {rest : List Oper} {o : Oper} {a : Act} {w : World} {Q : Exit → Act → World → Prop} (hw : Region.wanted o (yielded ops a.tmps) = true) (ty : TypeId) (x v : Operand) (ho : o.op = .store ty x v)
    (hi : (P.info? ty).map (·.size) = some 1) (b off : Nat) (t : TypeId) (cur : List Value) (u : Value) (hx : a.eval x = .pointer (some ⟨b, off, none⟩)) (hv : a.eval v = u)
    (hb : w.heap[b]? = some (.cells cur.toArray t (0, 0))) (h1 : u.oneCell' = true) (hf : off < cur.length)
    (h : ∀ w', w'.heap[b]? = some (.cells (cur.set off u).toArray t (0, 0)) → Mod [b] w w' → wpList P ops Q rest (a.put o.dst undef) w') : wpList P ops Q (o :: rest) a w :=
  wpList_wanted hw fun _ hK => by
    have hs : splice cur off [u] = cur.set off u := by
      simp only [splice, List.length_singleton, List.singleton_append]
      rw [List.set_eq_take_append_cons_drop, if_pos hf]
    have hst := run_storeCells_at (P := P) b off t [u] 0 cur.toArray w hb (by simp; omega) (by simpa using h1)
    have hc : u.cells = #[u] := by cases u <;> first | rfl | simp [Value.oneCell'] at h1
    have hrun : (storeVar ty ⟨b, off, none⟩ u).run P w = .ok () (w.setRow b (cur.set off u).toArray) := by
      cases hq : P.info? ty with
      | none => simp [hq] at hi
      | some i =>
        have hs' : i.size = 1 := by simpa [hq] using hi
        simp [storeVar, Sem.run_bind, sizeOf, typeInfo, hq, hs', hc]
        rw [← hs]
        simpa [splice] using hst
    unfold Oper.wp execOp
    simp only [ho, hx, hv, Instr.storeAt, Instr.sureAddr, Sem.run_bind, Sem.run_pure, Result.andThen_ok, hrun]
    exact hK _ _ (h _ (setRow_heap w b _ _ t _ hb) ((Mod.refl _ _).setRow _ _ (by simp)))

theorem results_cell_tmp {P : Program} {fn : Func} {p t : Tmp} {ty : TypeId} (h : fn.results = #[.cell p ty, .tmp t]) (tmps : Array Value) (w : World) (b : Addr) (v1 v2 : Value)
    (hp : tmps.getD p undef = .pointer (some b)) (ht : tmps.getD t undef = v2) (hl : (loadVar ty b).run P w = .ok v1 w) : (results fn tmps).run P w = .ok (.tuple #[v1, v2]) w := by
  have hp' : tmps[p]?.getD undef = .pointer (some b) := by simpa using hp
  have ht' : tmps[t]?.getD undef = v2 := by simpa using ht
  simp [results, h, hp', ht', asAddr, hl]

theorem results_cell1 {P : Program} {fn : Func} {p : Tmp} {ty : TypeId} (h : fn.results = #[.cell p ty]) (tmps : Array Value) (w : World) (b : Addr) (v1 : Value)
    (hp : tmps.getD p undef = .pointer (some b)) (hl : (loadVar ty b).run P w = .ok v1 w) : (results fn tmps).run P w = .ok v1 w := by
  have hp' : tmps[p]?.getD undef = .pointer (some b) := by simpa using hp
  simp [results, h, hp', asAddr, hl]

theorem ret_int {k : IntKind} {a b : Int} (h : a = b) : Ending.returned (.int k a) = .returned (.int k b) := by rw [h]
theorem int_eq {k : IntKind} {a b : Int} (h : a = b) : Value.int k a = .int k b := by rw [h]

theorem splice_all {α : Type} (cur cs : List α) (h : cs.length = cur.length) : splice cur 0 cs = cs := by simp [splice, h]

/-- v is a slice that owns the rows es (each of sz cells) at the head of its block. -/
def Own (w : World) (E sz : Nat) (v : Value) (es : List (List Value)) : Prop := (∀ e ∈ es, e.length = sz) ∧ w.ownsRow 0 E sz v es.length es.flatten

theorem flatten_length {sz : Nat} : ∀ {es : List (List Value)}, (∀ e ∈ es, e.length = sz) → es.flatten.length = es.length * sz
  | [], _ => by simp
  | e :: r, h => by
    have := flatten_length (es := r) (fun x hx => h x (by simp [hx]))
    have h0 := h e (by simp)
    simp [this, h0, Nat.add_mul]; omega

theorem flatten_get {sz : Nat} : ∀ {es : List (List Value)}, (∀ e ∈ es, e.length = sz) → ∀ (k j : Nat) (e : List Value), es[k]? = some e → j < sz → es.flatten[k * sz + j]? = e[j]?
  | [], _, k, j, e, hk, _ => by simp at hk
  | e0 :: r, h, 0, j, e, hk, hj => by
    simp at hk; subst hk
    have h0 := h e0 (by simp)
    rw [List.flatten_cons, List.getElem?_append_left (by omega)]; simp
  | e0 :: r, h, k + 1, j, e, hk, hj => by
    have h0 := h e0 (by simp)
    have := flatten_get (es := r) (fun x hx => h x (by simp [hx])) k j e (by simpa using hk) hj
    rw [List.flatten_cons, List.getElem?_append_right (by rw [h0, Nat.add_mul]; omega), h0, ← this]
    congr 1; rw [Nat.add_mul]; omega

theorem Own.nil (w : World) (E sz : Nat) : Own w E sz (.slice none 0 0) [] := ⟨by simp, World.ownsRow_nil w 0 E sz⟩

theorem Own.shape {w : World} {E sz : Nat} {v : Value} {es : List (List Value)} (h : Own w E sz v es) :
    (v = .slice none 0 0 ∧ es = []) ∨ ∃ b cap cur, v = .slice (some ⟨b, 0, none⟩) es.length cap ∧ b < w.heap.size ∧ es.length ≤ cap ∧ cap ≤ maxLen ∧
      w.heap[b]? = some (.cells cur E (0, 0)) ∧ cur.size = cap * sz ∧ cur.toList.take (es.length * sz) = es.flatten := by
  rcases h.2.2 with ⟨h1, h2⟩ | ⟨g, cap, cur, h1, _, h3, h4, h5, h6, h7⟩
  · exact .inl ⟨h1, List.eq_nil_of_length_eq_zero h2⟩
  · exact .inr ⟨g, cap, cur, h1, lt_of_heap h3, h4, h5, h3, h6, h7⟩

theorem Own.row {w : World} {E sz : Nat} {b n cap : Nat} {es : List (List Value)} (h : Own w E sz (.slice (some ⟨b, 0, none⟩) n cap) es) (k : Nat) (e : List Value) (hk : es[k]? = some e) : Row w b (k * sz) e := by
  intro j u hu
  have he : e.length = sz := h.1 e (List.mem_of_getElem? hk)
  have hj : j < sz := by rw [← he]; exact (List.getElem?_eq_some_iff.1 hu).1
  have hfl := flatten_get h.1 k j e hk hj
  have := h.2.cells (g := b) rfl (k * sz + j) u (by rw [hfl]; exact hu)
  rwa [addr_add, Nat.zero_add] at this

theorem Own.mod {S : List Nat} {w w' : World} (hm : Mod S w w') {E sz : Nat} {v : Value} {es : List (List Value)} (h : Own w E sz v es) (hb : ∀ b, v.ownBlock = some b → b ∉ S) : Own w' E sz v es := by
  refine ⟨h.1, h.2.1, ?_⟩
  rcases h.2.2 with h1 | ⟨g, cap, cur, h1, h2, h3, h4⟩
  · exact .inl h1
  · exact .inr ⟨g, cap, cur, h1, h2, hm.heap h3 (hb g (by rw [h1]; rfl)), h4⟩

theorem Own.lt {w : World} {E sz : Nat} {v : Value} {es : List (List Value)} (h : Own w E sz v es) : ∀ b, v.ownBlock = some b → b < w.heap.size := fun b hb => (h.2.lt b hb).2

end Go.Proofs.Ytknkifanpppglaa
