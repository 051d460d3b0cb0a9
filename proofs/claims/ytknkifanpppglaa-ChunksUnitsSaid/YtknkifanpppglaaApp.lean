/- append to a slice that owns its row. -/
import Derived.Test.YtknkifanpppglaaBase
namespace Go.Proofs.Ytknkifanpppglaa
open Go.RowKit

/-- t is the slice type of elements e, each of size cells and bytes bytes -/
structure STy (P : Program) (t e size bytes : Nat) : Prop where
  u : P.underlying t = some (.slice e)
  info : ∃ i z, P.info? e = some i ∧ i.zero = some z ∧ i.size = size ∧ i.bytes = bytes ∧ z.cells.size = size
  pos : 0 < size

theorem STy.mk' {P : Program} {t e size bytes : Nat} {z : Value} (h1 : P.underlying t = some (.slice e)) (h2 : (P.info? e).map (fun i => (i.zero, i.size, i.bytes)) = some (some z, size, bytes)) (h3 : z.cells.size = size) (h4 : 0 < size) : STy P t e size bytes := by
  obtain ⟨i, a, b, c, d⟩ := info_parts h2
  exact ⟨h1, ⟨i, z, a, b, c, d, h3⟩, h4⟩

/-- x is a slice whose rows are ns -/
def Src (w : World) (sz : Nat) (x : Value) (ns : List (List Value)) : Prop :=
  (∀ e ∈ ns, e.length = sz) ∧ ((∃ c, x = .slice none 0 c ∧ ns = []) ∨ ∃ b off c, x = .slice (some ⟨b, off, none⟩) ns.length c ∧ Row w b off ns.flatten)

theorem Src.mod {S : List Nat} {w w' : World} (hm : Mod S w w') {sz : Nat} {x : Value} {ns : List (List Value)} (h : Src w sz x ns) (hb : ∀ b, x.ownBlock = some b → b ∉ S) : Src w' sz x ns := by
  refine ⟨h.1, ?_⟩
  rcases h.2 with h1 | ⟨b, off, c, h1, h2⟩
  · exact .inl h1
  · exact .inr ⟨b, off, c, h1, h2.mod hm (hb b (by rw [h1]; rfl))⟩

theorem Own.src {w : World} {E sz : Nat} {v : Value} {es : List (List Value)} (h : Own w E sz v es) : Src w sz v es := by
  refine ⟨h.1, ?_⟩
  rcases h.shape with ⟨h1, h2⟩ | ⟨b, cap, cur, h1, _⟩
  · exact .inl ⟨0, h1, h2⟩
  · refine .inr ⟨b, 0, cap, h1, fun j u hu => ?_⟩
    have := h.2.cells (g := b) (by rw [h1]; rfl) j u hu
    rwa [addr_add] at this

/-- one element in a row of its own -/
theorem Src.one {w : World} {b off c sz : Nat} {e : List Value} (hl : e.length = sz) (hr : Row w b off e) : Src w sz (.slice (some ⟨b, off, none⟩) 1 c) [e] :=
  ⟨by simpa using hl, .inr ⟨b, off, c, rfl, by simpa using hr⟩⟩

theorem Src.nil (w : World) (sz c : Nat) : Src w sz (.slice none 0 c) [] := ⟨by simp, .inl ⟨c, rfl, rfl⟩⟩

def FreshOr (w : World) (v v' : Value) : Prop := v'.ownBlock = v.ownBlock ∨ ∃ g, v'.ownBlock = some g ∧ w.heap.size ≤ g

theorem run_append_Own {P : Program} {t e size bytes : Nat} (T : STy P t e size bytes) (w : World) (ty : TypeId) (v x : Value) (es ns : List (List Value)) (ho : Own w e size v es) (hx : Src w size x ns)
    (h1 : ∀ r ∈ ns, ∀ u ∈ r, u.oneCell' = true) (hn : es.length + ns.length ≤ maxLen) (hb : (es.length + ns.length) * bytes ≤ 140737488355328) :
    ∃ v' w', (Builtin.append_ #[t, t] ty #[v, x]).run P w = .ok v' w' ∧ Own w' e size v' (es ++ ns) ∧ Mod v.ownBlock.toList w w' ∧ FreshOr w v v' := by
  obtain ⟨i, z, hi, hz, hs, hby, hzs⟩ := T.info
  have h1' : ∀ u ∈ ns.flatten, u.oneCell' = true := by
    intro u hu
    obtain ⟨r, hr, hur⟩ := List.mem_flatten.1 hu
    exact h1 r hr u hur
  rcases hx.2 with ⟨c, rfl, rfl⟩ | ⟨b, off, c, rfl, hr⟩
  · refine ⟨v, w, ?_, by simpa using ho, Mod.refl _ _, .inl rfl⟩
    rcases ho.2.2 with ⟨rfl, h0⟩ | ⟨g, cap, cur, rfl, _, _, hnc, _⟩
    · simp [Builtin.append_, run_underlying T.u, sizeOf, typeInfo, hi, Builtin.lenOf, Builtin.firstCells]
    · simp [Builtin.append_, run_underlying T.u, sizeOf, typeInfo, hi, Builtin.lenOf, Builtin.firstCells, hnc, storeCells]
  · have hnews : ∀ j u, ns.flatten[j]? = some u → w.cell? ((⟨b, off, none⟩ : Addr).add j) = some u := fun j u hu => by rw [addr_add]; exact hr j u hu
    have hl := flatten_length hx.1
    obtain ⟨v', w', hrun, hown, hgr, hnil⟩ := run_append_own (P := P) w 0 t ty e i z size bytes T.u hi hz hs hby hzs T.pos v es.length es.flatten ho.2 ⟨b, off, none⟩ ns.length c ns.flatten hl hnews h1' hn hb (Nat.zero_le _)
    refine ⟨v', w', hrun, ⟨?_, ?_⟩, ?_, ?_⟩
    · intro r hr
      rcases List.mem_append.1 hr with hr | hr
      · exact ho.1 r hr
      · exact hx.1 r hr
    · rw [List.length_append, List.flatten_append]; exact hown
    · exact (Mod.refl _ _).grown hgr (by intro k hk; left; simp [hk])
    · subst hs hby
      have hsmall : es.length + ns.length ≤ 9223372036854775807 := by simp only [maxLen] at hn; omega
      rcases ho.2.2 with ⟨rfl, h0⟩ | ⟨g, cap, cur, rfl, hbg, hg, hnc, hcm, hcs, htake⟩
      · by_cases hm : ns.length = 0
        · have : v' = .slice none 0 0 := hnil.2 ⟨rfl, hm⟩
          exact .inl (by rw [this])
        · have hr2 := run_append_nil (P := P) w t ty e i z T.u hi hz ⟨b, off, none⟩ ns.length c ns.flatten hl hnews (by omega) (by omega) (by rw [h0, Nat.zero_add] at hb; omega)
          rw [hrun] at hr2
          cases hr2
          exact .inr ⟨_, rfl, Nat.le_refl _⟩
      · by_cases hroom : es.length + ns.length ≤ cap
        · obtain ⟨w2, hr2, _⟩ := run_append_fits (P := P) w 0 t ty e i i.size T.u hi rfl g es.length cap es.flatten ho.2 ⟨b, off, none⟩ ns.length c ns.flatten hl hnews h1' hroom
          rw [hrun] at hr2
          cases hr2
          exact .inl rfl
        · have holds : ∀ j u, es.flatten[j]? = some u → w.cell? ((⟨g, 0, none⟩ : Addr).add j) = some u := ho.2.cells (g := g) rfl
          have hr2 := run_append_grow (P := P) w t ty e i z T.u hi hz ⟨g, 0, none⟩ es.length cap es.flatten ho.2.1 holds ⟨b, off, none⟩ ns.length c ns.flatten hl hnews (by omega) (by omega) (growslice_fits (by omega) hb)
          rw [hrun] at hr2
          cases hr2
          exact .inr ⟨_, rfl, Nat.le_refl _⟩

theorem wpList_append_Own {P : Program} {t e size bytes : Nat} (T : STy P t e size bytes) {ops : Array Oper} {rest : List Oper} {o : Oper} {a : Act} {w : World} {Q : Exit → Act → World → Prop} (hw : Region.wanted o (yielded ops a.tmps) = true) (s y : Operand)
    (hop : o.op = .call { callee := .builtin .append, args := #[s, y], argTypes := #[t, t] })
    (v x : Value) (hs : a.eval s = v) (hy : a.eval y = x) (es ns : List (List Value)) (ho : Own w e size v es) (hx : Src w size x ns)
    (h1 : ∀ r ∈ ns, ∀ u ∈ r, u.oneCell' = true) (hn : es.length + ns.length ≤ maxLen) (hb : (es.length + ns.length) * bytes ≤ 140737488355328)
    (h : ∀ v' w', Own w' e size v' (es ++ ns) → Mod v.ownBlock.toList w w' → FreshOr w v v' → wpList P ops Q rest (a.put o.dst v') w') : wpList P ops Q (o :: rest) a w :=
  wpList_wanted hw fun _ hK => by
    obtain ⟨v', w', hr, h2, h3, h4⟩ := run_append_Own T w o.type v x es ns ho hx h1 hn hb
    unfold Oper.wp execOp
    simp only [hop, resolve, invoke, builtin, Sem.run_bind, Sem.run_pure, Result.andThen_ok, List.map_toArray, List.map_cons, List.map_nil, hs, hy, hr]
    exact hK _ _ (h v' w' h2 h3 h4)

theorem heap_alloc_at (w : World) (o : Obj) : (w.alloc o).heap[w.heap.size]? = some o := by
  show (w.heap.push o)[w.heap.size]? = _
  simp

/-- a row that was just laid is owned -/
theorem Own.lit (w : World) (E sz : Nat) (es : List (List Value)) (hs : ∀ e ∈ es, e.length = sz) (hm : es.length ≤ maxLen) (cs : List Value) (hc : cs = es.flatten) :
    Own (w.alloc (.cells cs.toArray E)) E sz (.slice (some ⟨w.heap.size, 0, none⟩) es.length es.length) es := by
  subst hc
  have hl := flatten_length hs
  refine ⟨hs, hl, .inr ⟨w.heap.size, es.length, _, rfl, Nat.zero_le _, heap_alloc_at w _, Nat.le_refl _, hm, by simpa using hl, ?_⟩⟩
  exact List.take_of_length_le (by simp [hl])

theorem Own.lit0 (w : World) (E sz : Nat) : Own (w.alloc (.cells #[] E)) E sz (.slice (some ⟨w.heap.size, 0, none⟩) 0 0) [] := Own.lit w E sz [] (by simp) (Nat.zero_le _) [] rfl

end Go.Proofs.Ytknkifanpppglaa
