/- A map from units to numbers: what lookup, update and delete do with the entries; equality of units and of digests. -/
import Derived.Test.YtknkifanpppglaaProg
import Derived.Test.YtknkifanpppglaaBase
import Derived.Test.YtknkifanpppglaaRefs
import Derived.KernelRfl
namespace Go.Proofs.Ytknkifanpppglaa
open Go.RowKit

def U3.cells (u : U3) : List Value := [.int .i64 u.row, .int .i64 u.group, .int .i64 u.unit]
def U3.val (u : U3) : Value := .agg #[.int .i64 u.row, .int .i64 u.group, .int .i64 u.unit]
theorem U3.val_eq (u : U3) : u.val = .agg u.cells.toArray := rfl

theorem info3 : (Try.prog.info? 3).map (·.size) = some 1 := by kernel_rfl
theorem info24 : (Try.prog.info? 24).map (·.size) = some 2 := by kernel_rfl
theorem info26 : (Try.prog.info? 26).map (·.size) = some 3 := by kernel_rfl

theorem stood26 : Try.prog.stoodInHeld 26 = false := by kernel_rfl
theorem stood24 : Try.prog.stoodInHeld 24 = false := by kernel_rfl

theorem equalIn_int (d : Nat) (a b : Int) (w : World) : (Op.equalIn (d + 1) 3 (.int .i64 a) (.int .i64 b)).run Try.prog w = .ok (a == b) w := by
  unfold Op.equalIn
  simp [run_underlying Try.underlying3]

theorem part_int (cs : Array Value) (off : Nat) (v : Value) (h : cs[off]? = some v) (w : World) : (part 3 cs off).run Try.prog w = .ok v w := by
  simp [part, isAgg, run_underlying Try.underlying3, h]

theorem part_stripe (a b c : Value) (w : World) : (part 24 #[a, b, c] 0).run Try.prog w = .ok (.agg #[a, b]) w := by
  cases hq : Try.prog.info? 24 with
  | none => have := info24; simp [hq] at this
  | some i =>
    have hs : i.size = 2 := by have := info24; simpa [hq] using this
    simp [part, isAgg, run_underlying Try.underlying24, sizeOf, typeInfo, hq, hs]

theorem equalIn_stripe (d : Nat) (a b c e : Int) (w : World) :
    (Op.equalIn (d + 2) 24 (.agg #[.int .i64 a, .int .i64 b]) (.agg #[.int .i64 c, .int .i64 e])).run Try.prog w = .ok (a == c && b == e) w := by
  unfold Op.equalIn
  simp [run_underlying Try.underlying24, part_int, equalIn_int]
  by_cases h1 : a = c <;> by_cases h2 : b = e <;> simp [h1, h2]

theorem equalIn_unit (d : Nat) (u v : U3) (w : World) : (Op.equalIn (d + 3) 26 u.val v.val).run Try.prog w = .ok (decide (u = v)) w := by
  obtain ⟨a, b, c⟩ := u
  obtain ⟨a', b', c'⟩ := v
  unfold Op.equalIn
  simp [U3.val, run_underlying Try.underlying26, part_stripe, part_int, equalIn_int, equalIn_stripe]
  by_cases h1 : a = a' <;> by_cases h2 : b = b' <;> by_cases h3 : c = c' <;> simp [h1, h2, h3]

theorem equal_unit (u v : U3) (w : World) : (Op.equal 26 u.val v.val).run Try.prog w = .ok (decide (u = v)) w :=
  equalIn_unit 9997 u v w

theorem checkKey_int (b : Bool) (d : Nat) (a : Int) (w : World) : (Instr.checkKey b (d + 1) 3 (.int .i64 a)).run Try.prog w = .ok () w := by
  unfold Instr.checkKey
  simp [run_underlying Try.underlying3]

theorem checkKey_stripe (b : Bool) (d : Nat) (a c : Int) (w : World) : (Instr.checkKey b (d + 2) 24 (.agg #[.int .i64 a, .int .i64 c])).run Try.prog w = .ok () w := by
  unfold Instr.checkKey
  simp [run_underlying Try.underlying24, part_int, checkKey_int]

theorem checkKey_unit (b : Bool) (u : U3) (w : World) : (Instr.checkKey b 10000 26 u.val).run Try.prog w = .ok () w := by
  show (Instr.checkKey b (9997 + 3) 26 u.val).run Try.prog w = .ok () w
  unfold Instr.checkKey
  simp [U3.val, run_underlying Try.underlying26, part_stripe, part_int, checkKey_int, checkKey_stripe]

/-- where a key stands among the entries -/
def mfind : List (U3 × Int) → U3 → Nat → Option (Nat × Int)
  | [], _, _ => none
  | x :: M, u, i => if u = x.1 then some (i, x.2) else mfind M u (i + 1)
def mget (M : List (U3 × Int)) (u : U3) : Option Int := (mfind M u 0).map (·.2)
def mset (M : List (U3 × Int)) (u : U3) (v : Int) : List (U3 × Int) :=
  match mfind M u 0 with
  | some p => M.set p.1 (u, v)
  | none => M ++ [(u, v)]
def mdel (M : List (U3 × Int)) (u : U3) : List (U3 × Int) :=
  match mfind M u 0 with
  | some p => M.eraseIdx p.1
  | none => M

def encM (x : U3 × Int) : Value × Value := (x.1.val, .int .i64 x.2)
def MapIs (w : World) (mb : Nat) (M : List (U3 × Int)) : Prop :=
  ∃ es clock, w.heap[mb]? = some (.map es clock) ∧ es.toList.map (fun e => (e.key, e.val)) = M.map encM ∧ (M.map (·.1)).Nodup

theorem mfind_some : ∀ {M : List (U3 × Int)} {u : U3} {i : Nat} {p : Nat × Int}, mfind M u i = some p → i ≤ p.1 ∧ M[p.1 - i]? = some (u, p.2)
  | [], _, _, _, h => by simp [mfind] at h
  | x :: M, u, i, p, h => by
    unfold mfind at h
    split at h
    · rename_i he
      cases h
      simp [he]
    · have := mfind_some h
      refine ⟨by omega, ?_⟩
      rw [show p.1 - i = (p.1 - (i + 1)) + 1 by omega]
      simpa using this.2

theorem mfind_none : ∀ {M : List (U3 × Int)} {u : U3} {i : Nat}, mfind M u i = none ↔ ∀ x ∈ M, x.1 ≠ u
  | [], _, _ => by simp [mfind]
  | x :: M, u, i => by
    unfold mfind
    by_cases he : u = x.1
    · simp [he]
    · rw [if_neg he, mfind_none]
      simp
      intro _ e
      exact he e.symm

theorem findAsking_run (w : World) (u : U3) : ∀ (es : List MapEntry) (M : List (U3 × Int)) (i : Nat), es.map (fun e => (e.key, e.val)) = M.map encM →
    (Instr.findAsking 26 u.val es i).run Try.prog w = .ok ((mfind M u i).map (fun p => (p.1, Value.int .i64 p.2))) w
  | [], [], i, _ => by simp [Instr.findAsking, mfind]
  | [], _ :: _, i, h => by simp at h
  | _ :: _, [], i, h => by simp at h
  | e :: es, x :: M, i, h => by
    simp only [List.map_cons, List.cons.injEq, encM, Prod.mk.injEq] at h
    obtain ⟨⟨h1, h2⟩, h3⟩ := h
    have ih := findAsking_run w u es M (i + 1) h3
    unfold Instr.findAsking mfind
    simp only [h1, Sem.run_bind, equal_unit, Result.andThen_ok]
    by_cases he : u = x.1
    · simp [he, h2]
    · simp [he, ih]

theorem findKey_run (w : World) (u : U3) (es : List MapEntry) (M : List (U3 × Int)) (h : es.map (fun e => (e.key, e.val)) = M.map encM) :
    (Instr.findKey 26 u.val es).run Try.prog w = .ok ((mfind M u 0).map (fun p => (p.1, Value.int .i64 p.2))) w := by
  unfold Instr.findKey
  simp only [Sem.run_bind, run_underlying Try.underlying26, Result.andThen_ok]
  cases es with
  | nil =>
    cases M with
    | nil => simp [Instr.findNow, mfind]
    | cons x M => simp at h
  | cons e es =>
    simp only [Instr.findNow, Instr.sameNow]
    exact findAsking_run w u (e :: es) M 0 h

theorem zero_int (w : World) : (zeroValue 3).run Try.prog w = .ok (.int .i64 0) w := by kernel_rfl

theorem run_lookup_unit (w : World) (mb : Nat) (M : List (U3 × Int)) (u : U3) (hm : MapIs w mb M) :
    (Instr.lookup 118 (.map (some mb)) u.val true).run Try.prog w = .ok (.tuple #[.int .i64 ((mget M u).getD 0), .bool (mget M u).isSome]) w := by
  obtain ⟨es, clock, h1, h2, h3⟩ := hm
  have hg : (getObj mb).run Try.prog w = .ok (.map es clock) w := by simp [getObj, Sem.run, h1]
  have hk := findKey_run w u es.toList M h2
  cases hf : mfind M u 0 with
  | none => simp [Instr.lookup, run_underlying Try.underlying118, hg, checkKey_unit, hk, hf, mget]
  | some p => simp [Instr.lookup, run_underlying Try.underlying118, hg, checkKey_unit, hk, hf, mget]

theorem sameBits_unit (u : U3) : Instr.sameBits 10000 u.val u.val = true := by
  show Instr.sameBits (9998 + 2) _ _ = true
  simp [U3.val, Instr.sameBits]

theorem getElem_encM {es : Array MapEntry} {M : List (U3 × Int)} (h : es.toList.map (fun e => (e.key, e.val)) = M.map encM) {i : Nat} {x : U3 × Int} (hx : M[i]? = some x) :
    ∃ e, es[i]? = some e ∧ e.key = x.1.val ∧ e.val = .int .i64 x.2 := by
  have h1 := congrArg (fun l => l[i]?) h
  simp only [List.getElem?_map, hx, Option.map_some, encM] at h1
  cases he : es.toList[i]? with
  | none => rw [he] at h1; simp at h1
  | some e =>
    rw [he] at h1
    simp at h1
    exact ⟨e, by simpa using he, h1.1, h1.2⟩

theorem map_modify_encM {es : Array MapEntry} {M : List (U3 × Int)} (h : es.toList.map (fun e => (e.key, e.val)) = M.map encM) (i : Nat) (u : U3) (v : Int) :
    (es.modify i fun e => { e with key := u.val, val := .int .i64 v }).toList.map (fun e => (e.key, e.val)) = (M.set i (u, v)).map encM := by
  apply List.ext_getElem?
  intro j
  have h1 := congrArg (fun l => l[j]?) h
  simp only [List.getElem?_map] at h1 ⊢
  rw [List.getElem?_set, Array.getElem?_toList, Array.getElem?_modify]
  rw [Array.getElem?_toList] at h1
  have hlen : es.size = M.length := by have := congrArg List.length h; simpa using this
  by_cases hij : i = j
  · subst hij
    by_cases hi : i < M.length
    · rw [if_pos rfl, if_pos rfl, if_pos hi, Array.getElem?_eq_getElem (by omega)]
      simp [encM]
    · rw [if_pos rfl, if_pos rfl, if_neg hi, Array.getElem?_eq_none (by omega)]
      simp
  · rw [if_neg hij, if_neg hij]
    exact h1

theorem run_mapUpdate_unit (w : World) (mb : Nat) (M : List (U3 × Int)) (u : U3) (v : Int) (hm : MapIs w mb M) :
    ∃ w', (Instr.mapUpdate 118 (.map (some mb)) u.val (.int .i64 v)).run Try.prog w = .ok () w' ∧ MapIs w' mb (mset M u v) ∧ Mod [mb] w w' := by
  obtain ⟨es, clock, h1, h2, h3⟩ := hm
  have hg : (getObj mb).run Try.prog w = .ok (.map es clock) w := by simp [getObj, Sem.run, h1]
  have hk := findKey_run w u es.toList M h2
  have hs : ∀ o, (setObj mb o).run Try.prog w = .ok () { w with heap := w.heap.setIfInBounds mb o } := by intro o; simp [setObj, Sem.run, h1]
  have hlt := lt_of_heap h1
  have hheap : ∀ o, ({ w with heap := w.heap.setIfInBounds mb o } : World).heap[mb]? = some o := by
    intro o
    simp [hlt]
  have hmod : ∀ o, Mod [mb] w { w with heap := w.heap.setIfInBounds mb o } := fun o => ⟨rfl, rfl, rfl, by simp, fun k _ hk => by
    have : mb ≠ k := by simp at hk; exact fun e => hk e.symm
    simp [Array.getElem?_setIfInBounds_ne this]⟩
  cases hf : mfind M u 0 with
  | none =>
    refine ⟨_, by simp [Instr.mapUpdate, run_underlying Try.underlying118, hg, checkKey_unit, hk, hf, hs]; rfl, ⟨_, _, hheap _, ?_, ?_⟩, hmod _⟩
    · simp [mset, hf, h2, encM]
    · have := mfind_none.1 hf
      simp only [mset, hf, List.map_append, List.map_cons, List.map_nil]
      rw [List.nodup_append]
      refine ⟨h3, by simp, ?_⟩
      intro a ha b hb e
      simp at hb
      obtain ⟨x, hx, rfl⟩ := List.mem_map.1 ha
      exact this x hx (by rw [e, hb])
  | some p =>
    obtain ⟨_, hp⟩ := mfind_some hf
    simp only [Nat.sub_zero] at hp
    obtain ⟨e, he1, he2, he3⟩ := getElem_encM h2 hp
    have hkt : (Instr.keyThatStays u.val u.val).run Try.prog w = .ok u.val w := by simp [Instr.keyThatStays, sameBits_unit]
    refine ⟨_, by simp [Instr.mapUpdate, run_underlying Try.underlying118, hg, checkKey_unit, hk, hf, he1, he2, hkt, hs]; rfl, ⟨_, _, hheap _, ?_, ?_⟩, hmod _⟩
    · simp only [mset, hf]
      exact map_modify_encM h2 p.1 u v
    · simp only [mset, hf]
      have : (M.set p.1 (u, v)).map (·.1) = M.map (·.1) := by
        apply List.ext_getElem?
        intro j
        simp only [List.getElem?_map, List.getElem?_set]
        split
        · rename_i e; subst e
          rw [hp]
          split
          · rfl
          · rename_i hn; exact absurd (List.getElem?_eq_some_iff.1 hp).1 hn
        · rfl
      rw [this]; exact h3

theorem map_erase {α β : Type} (f : α → β) : ∀ (l : List α) (i : Nat), (l.eraseIdx i).map f = (l.map f).eraseIdx i
  | [], _ => rfl
  | _ :: _, 0 => rfl
  | a :: l, i + 1 => by simp [map_erase f l i]

theorem run_delete_unit (w : World) (mb : Nat) (M : List (U3 × Int)) (u : U3) (ty : TypeId) (hm : MapIs w mb M) :
    ∃ w', (Builtin.delete_ #[118, 26] ty #[.map (some mb), u.val]).run Try.prog w = .ok (.tuple #[]) w' ∧ MapIs w' mb (mdel M u) ∧ Mod [mb] w w' := by
  obtain ⟨es, clock, h1, h2, h3⟩ := hm
  have hg : (getObj mb).run Try.prog w = .ok (.map es clock) w := by simp [getObj, Sem.run, h1]
  have hk := findKey_run w u es.toList M h2
  have hs : ∀ o, (setObj mb o).run Try.prog w = .ok () { w with heap := w.heap.setIfInBounds mb o } := by intro o; simp [setObj, Sem.run, h1]
  have hlt := lt_of_heap h1
  have hheap : ∀ o, ({ w with heap := w.heap.setIfInBounds mb o } : World).heap[mb]? = some o := by
    intro o
    simp [hlt]
  have hmod : ∀ o, Mod [mb] w { w with heap := w.heap.setIfInBounds mb o } := fun o => ⟨rfl, rfl, rfl, by simp, fun k _ hk => by
    have : mb ≠ k := by simp at hk; exact fun e => hk e.symm
    simp [Array.getElem?_setIfInBounds_ne this]⟩
  cases hf : mfind M u 0 with
  | none =>
    refine ⟨_, by simp [Builtin.delete_, run_underlying Try.underlying118, hg, checkKey_unit, hk, hf, hs]; rfl, ⟨_, _, hheap _, ?_, ?_⟩, hmod _⟩
    · simpa [mdel, hf] using h2
    · simpa [mdel, hf] using h3
  | some p =>
    refine ⟨_, by simp [Builtin.delete_, run_underlying Try.underlying118, hg, checkKey_unit, hk, hf, hs]; rfl, ⟨_, _, hheap _, ?_, ?_⟩, hmod _⟩
    · simp only [mdel, hf]
      rw [Array.toList_eraseIdxIfInBounds, map_erase, map_erase, h2]
    · simp only [mdel, hf]
      rw [map_erase]
      exact h3.sublist (List.eraseIdx_sublist _ _)

theorem wpList_delete_unit {ops : Array Oper} {rest : List Oper} {o : Oper} {a : Act} {w : World} {Q : Exit → Act → World → Prop} (hw : Region.wanted o (yielded ops a.tmps) = true) (m k : Operand)
    (hop : o.op = .call { callee := .builtin .delete, args := #[m, k], argTypes := #[118, 26] }) (mb : Nat) (u : U3) (M : List (U3 × Int)) (hm : a.eval m = .map (some mb)) (hk : a.eval k = u.val) (hM : MapIs w mb M)
    (h : ∀ w', MapIs w' mb (mdel M u) → Mod [mb] w w' → wpList Try.prog ops Q rest (a.put o.dst (.tuple #[])) w') : wpList Try.prog ops Q (o :: rest) a w :=
  wpList_wanted hw fun _ hK => by
    obtain ⟨w', hr, h2, h3⟩ := run_delete_unit w mb M u o.type hM
    unfold Oper.wp execOp
    simp only [hop, resolve, invoke, builtin, Sem.run_bind, Sem.run_pure, Result.andThen_ok, List.map_toArray, List.map_cons, List.map_nil, hm, hk, hr]
    exact hK _ _ (h w' h2 h3)

theorem wpList_mapUpdate_unit {ops : Array Oper} {rest : List Oper} {o : Oper} {a : Act} {w : World} {Q : Exit → Act → World → Prop} (hw : Region.wanted o (yielded ops a.tmps) = true) (m k v : Operand)
    (hop : o.op = .mapUpdate 118 m k v) (mb : Nat) (u : U3) (x : Int) (M : List (U3 × Int)) (hm : a.eval m = .map (some mb)) (hk : a.eval k = u.val) (hv : a.eval v = .int .i64 x) (hM : MapIs w mb M)
    (h : ∀ w', MapIs w' mb (mset M u x) → Mod [mb] w w' → wpList Try.prog ops Q rest (a.put o.dst undef) w') : wpList Try.prog ops Q (o :: rest) a w :=
  wpList_wanted hw fun _ hK => by
    obtain ⟨w', hr, h2, h3⟩ := run_mapUpdate_unit w mb M u x hM
    unfold Oper.wp execOp
    simp only [hop, Sem.run_bind, Sem.run_pure, Result.andThen_ok, hm, hk, hv, hr]
    exact hK _ _ (h w' h2 h3)

theorem mfind_shift (M : List (U3 × Int)) (u : U3) : ∀ i, (mfind M u i).map (·.2) = (mfind M u 0).map (·.2) := by
  induction M with
  | nil => intro i; rfl
  | cons x M ih =>
    intro i
    unfold mfind
    split
    · rfl
    · rw [ih (i + 1), ih (0 + 1)]

theorem mget_nil (u : U3) : mget [] u = none := rfl
theorem mget_cons (x : U3 × Int) (M : List (U3 × Int)) (u : U3) : mget (x :: M) u = if u = x.1 then some x.2 else mget M u := by
  unfold mget
  rw [mfind]
  split
  · rfl
  · exact mfind_shift M u _

theorem mget_append (M N : List (U3 × Int)) (u : U3) : mget (M ++ N) u = (mget M u).or (mget N u) := by
  induction M with
  | nil => simp [mget_nil]
  | cons x M ih =>
    rw [List.cons_append, mget_cons, mget_cons, ih]
    split <;> simp

theorem mget_none {M : List (U3 × Int)} {u : U3} : mget M u = none ↔ ∀ x ∈ M, x.1 ≠ u := by
  unfold mget
  rw [Option.map_eq_none_iff, mfind_none]

theorem mget_mem {M : List (U3 × Int)} (hn : (M.map (·.1)).Nodup) {u : U3} {v : Int} : mget M u = some v ↔ (u, v) ∈ M := by
  induction M with
  | nil => simp [mget_nil]
  | cons x M ih =>
    rw [List.map_cons, List.nodup_cons] at hn
    rw [mget_cons, List.mem_cons]
    split
    · rename_i h
      subst h
      constructor
      · intro h; simp at h; left; rw [← h]
      · rintro (h | h)
        · rw [← h]
        · exact absurd (List.mem_map.2 ⟨_, h, rfl⟩) hn.1
    · rename_i h
      rw [ih hn.2]
      constructor
      · exact .inr
      · rintro (h2 | h2)
        · exact absurd (by rw [← h2]) h
        · exact h2

theorem mget_set {M : List (U3 × Int)} (u : U3) (v : Int) (u' : U3) : mget (mset M u v) u' = if u' = u then some v else mget M u' := by
  unfold mset
  cases hf : mfind M u 0 with
  | none =>
    simp only
    rw [mget_append, mget_cons, mget_nil]
    by_cases h : u' = u
    · subst h
      have : mget M u' = none := by unfold mget; rw [hf]; rfl
      rw [this]; simp
    · simp [h]
  | some p =>
    simp only
    obtain ⟨_, hp⟩ := mfind_some hf
    simp only [Nat.sub_zero] at hp
    have key : ∀ (M : List (U3 × Int)) (i : Nat) (w : Int), M[i]? = some (u, w) → (∀ j x, j < i → M[j]? = some x → x.1 ≠ u) → mget (M.set i (u, v)) u' = if u' = u then some v else mget M u' := by
      intro M
      induction M with
      | nil => intro i w h; simp at h
      | cons x M ih =>
        intro i w h hlt
        cases i with
        | zero =>
          simp at h; subst h
          rw [List.set_cons_zero, mget_cons, mget_cons]
          split <;> rfl
        | succ i =>
          rw [List.set_cons_succ, mget_cons, mget_cons, ih i w (by simpa using h) (fun j y hj hy => hlt (j + 1) y (by omega) (by simpa using hy))]
          have hx := hlt 0 x (by omega) rfl
          by_cases h1 : u' = x.1
          · have : u' ≠ u := fun e => hx (by rw [← h1, e])
            rw [if_pos h1, if_neg this, if_pos h1]
          · rw [if_neg h1, if_neg h1]
    refine key M p.1 p.2 hp (fun j x hj hx e => ?_)
    have first : ∀ (M : List (U3 × Int)) (i : Nat) (q : Nat × Int), mfind M u i = some q → ∀ j x, j < q.1 - i → M[j]? = some x → x.1 ≠ u := by
      intro M
      induction M with
      | nil => intro i q h; simp [mfind] at h
      | cons y M ih =>
        intro i q h j x hj hx
        unfold mfind at h
        split at h
        · cases h; omega
        · rename_i hne
          have hle := (mfind_some h).1
          cases j with
          | zero => simp at hx; subst hx; exact fun e => hne e.symm
          | succ j => exact ih (i + 1) q h j x (by omega) (by simpa using hx)
    exact first M 0 p hf j x (by omega) hx e

theorem mget_del {M : List (U3 × Int)} (hn : (M.map (·.1)).Nodup) (u u' : U3) : mget (mdel M u) u' = if u' = u then none else mget M u' := by
  have hd : ((mdel M u).map (·.1)).Nodup := by
    unfold mdel
    cases mfind M u 0 with
    | none => exact hn
    | some p => simp only; rw [map_erase]; exact hn.sublist (List.eraseIdx_sublist _ _)
  have hmem : ∀ x, x ∈ mdel M u ↔ x ∈ M ∧ x.1 ≠ u := by
    intro x
    unfold mdel
    cases hf : mfind M u 0 with
    | none => simp only; exact ⟨fun h => ⟨h, mfind_none.1 hf x h⟩, fun h => h.1⟩
    | some p =>
      simp only
      obtain ⟨_, hp⟩ := mfind_some hf
      simp only [Nat.sub_zero] at hp
      rw [List.mem_eraseIdx_iff_getElem?]
      constructor
      · rintro ⟨i, hi, hx⟩
        refine ⟨List.mem_of_getElem? hx, fun e => hi ?_⟩
        have h1 : (M.map (·.1))[i]? = some u := by simp [hx, e]
        have h2 : (M.map (·.1))[p.1]? = some u := by simp [hp]
        exact (List.getElem?_inj (List.getElem?_eq_some_iff.1 h1).1 hn).1 (h1.trans h2.symm)
      · rintro ⟨hx, hne⟩
        obtain ⟨i, hi, he⟩ := List.getElem_of_mem hx
        refine ⟨i, fun e => hne ?_, by rw [List.getElem?_eq_getElem hi, he]⟩
        subst e
        rw [List.getElem?_eq_getElem hi, he] at hp
        simp at hp; rw [hp]
  by_cases h : u' = u
  · subst h
    rw [if_pos rfl, mget_none]
    exact fun x hx => ((hmem x).1 hx).2
  · rw [if_neg h]
    cases hM : mget M u' with
    | none => rw [mget_none]; exact fun x hx => mget_none.1 hM x ((hmem x).1 hx).1
    | some v => rw [mget_mem hd, hmem]; exact ⟨(mget_mem hn).1 hM, h⟩

theorem MapIs.nodup {w : World} {mb : Nat} {M : List (U3 × Int)} (h : MapIs w mb M) : (M.map (·.1)).Nodup := by obtain ⟨_, _, _, _, h⟩ := h; exact h
theorem MapIs.mod {S : List Nat} {w w' : World} (hm : Mod S w w') {mb : Nat} {M : List (U3 × Int)} (h : MapIs w mb M) (hb : mb ∉ S) : MapIs w' mb M := by
  obtain ⟨es, clock, h1, h2⟩ := h
  exact ⟨es, clock, hm.heap h1 hb, h2⟩

end Go.Proofs.Ytknkifanpppglaa
