/- A block as a list of rows: copy, clear, append of zeros. -/
import Derived.Test.YtknkifanpppglaaApp
import Derived.Lib.AppendZerosOnto
namespace Go.Proofs.Ytknkifanpppglaa
open Go.RowKit

/-- block g holds exactly the rows R -/
def Blk (w : World) (g E sz : Nat) (R : List (List Value)) : Prop := (∀ r ∈ R, r.length = sz) ∧ w.heap[g]? = some (.cells R.flatten.toArray E (0, 0))

theorem chop (sz : Nat) : ∀ (n : Nat) (cur : List Value), cur.length = n * sz → ∃ R : List (List Value), R.length = n ∧ (∀ r ∈ R, r.length = sz) ∧ R.flatten = cur
  | 0, cur, h => ⟨[], rfl, by simp, by have : cur = [] := List.eq_nil_of_length_eq_zero (by simpa using h)
                                       simp [this]⟩
  | n + 1, cur, h => by
    have hl : (cur.drop sz).length = n * sz := by rw [List.length_drop, h, Nat.add_mul]; omega
    obtain ⟨R, h1, h2, h3⟩ := chop sz n (cur.drop sz) hl
    refine ⟨cur.take sz :: R, by simp [h1], ?_, ?_⟩
    · intro r hr
      rcases List.mem_cons.1 hr with rfl | hr
      · rw [List.length_take, h, Nat.add_mul]; omega
      · exact h2 r hr
    · rw [List.flatten_cons, h3, List.take_append_drop]

theorem flatten_take {sz : Nat} : ∀ {R : List (List Value)} (n : Nat), (∀ r ∈ R, r.length = sz) → R.flatten.take (n * sz) = (R.take n).flatten
  | [], n, _ => by simp
  | r :: R, 0, _ => by simp
  | r :: R, n + 1, h => by
    have hr := h r (by simp)
    rw [List.flatten_cons, List.take_succ_cons, List.flatten_cons, ← flatten_take n (fun x hx => h x (by simp [hx])), Nat.add_mul, Nat.one_mul, List.take_append, List.take_of_length_le (by omega)]
    congr 2
    omega

theorem flatten_drop {sz : Nat} : ∀ {R : List (List Value)} (n : Nat), (∀ r ∈ R, r.length = sz) → R.flatten.drop (n * sz) = (R.drop n).flatten
  | [], n, _ => by simp
  | r :: R, 0, _ => by simp
  | r :: R, n + 1, h => by
    have hr := h r (by simp)
    rw [List.flatten_cons, List.drop_succ_cons, ← flatten_drop n (fun x hx => h x (by simp [hx])), Nat.add_mul, Nat.one_mul, List.drop_append, List.drop_of_length_le (by omega), List.nil_append]
    congr 1
    omega

theorem splice_flatten {sz : Nat} {R ns : List (List Value)} (i : Nat) (h : ∀ r ∈ R, r.length = sz) (hn : ∀ r ∈ ns, r.length = sz) : splice R.flatten (i * sz) ns.flatten = (splice R i ns).flatten := by
  unfold splice
  rw [flatten_take i h, flatten_length hn, ← Nat.add_mul, flatten_drop _ h, List.flatten_append, List.flatten_append]

theorem mem_splice {α : Type} {R ns : List α} {i : Nat} {x : α} (h : x ∈ splice R i ns) : x ∈ R ∨ x ∈ ns := by
  unfold splice at h
  rcases List.mem_append.1 h with h | h
  · exact .inl (List.mem_of_mem_take h)
  · rcases List.mem_append.1 h with h | h
    · exact .inr h
    · exact .inl (List.mem_of_mem_drop h)

theorem Own.blk {w : World} {E sz b n cap : Nat} {es : List (List Value)} (h : Own w E sz (.slice (some ⟨b, 0, none⟩) n cap) es) :
    ∃ R, Blk w b E sz R ∧ R.length = cap ∧ R.take n = es ∧ n = es.length ∧ n ≤ cap ∧ cap ≤ maxLen := by
  rcases h.shape with ⟨h1, _⟩ | ⟨b', cap', cur, h1, h2, h3, h4, h5, h6, h7⟩
  · cases h1
  · cases h1
    obtain ⟨R, r1, r2, r3⟩ := chop sz cap cur.toList (by simpa using h6)
    refine ⟨R, ⟨r2, by rw [r3]; simpa using h5⟩, r1, ?_, rfl, h3, h4⟩
    rw [← r3, flatten_take _ r2] at h7
    have e1 : (R.take es.length).length = es.length := by rw [List.length_take, r1]; omega
    apply List.ext_getElem?
    intro k
    by_cases hk : k < es.length
    · have hk1 : k < (R.take es.length).length := by omega
      rw [List.getElem?_eq_getElem hk, List.getElem?_eq_getElem hk1]
      congr 1
      apply List.ext_getElem?
      intro j
      have ha := fun x hx => r2 x (List.mem_of_mem_take (i := es.length) hx)
      by_cases hj : j < sz
      · have g1 := flatten_get ha k j _ (List.getElem?_eq_getElem hk1) hj
        have g2 := flatten_get h.1 k j _ (List.getElem?_eq_getElem hk) hj
        rw [← g1, ← g2, h7]
      · have l1 := ha _ (List.getElem_mem hk1)
        have l2 := h.1 _ (List.getElem_mem hk)
        rw [List.getElem?_eq_none (by omega), List.getElem?_eq_none (by omega)]
    · rw [List.getElem?_eq_none (by omega), List.getElem?_eq_none (by omega)]

theorem Blk.own {w : World} {g E sz : Nat} {R : List (List Value)} (h : Blk w g E sz R) (n : Nat) (hn : n ≤ R.length) (hm : R.length ≤ maxLen) (es : List (List Value)) (he : R.take n = es) :
    Own w E sz (.slice (some ⟨g, 0, none⟩) n R.length) es := by
  subst he
  have hl : (R.take n).length = n := by rw [List.length_take]; omega
  have ha := fun x hx => h.1 x (List.mem_of_mem_take (i := n) hx)
  refine ⟨ha, flatten_length ha, .inr ⟨g, R.length, _, by rw [hl], Nat.zero_le _, h.2, by rw [hl]; exact hn, hm, by simpa using flatten_length h.1, ?_⟩⟩
  rw [hl]
  exact flatten_take n h.1

theorem Blk.mod {S : List Nat} {w w' : World} (hm : Mod S w w') {g E sz : Nat} {R : List (List Value)} (h : Blk w g E sz R) (hg : g ∉ S) : Blk w' g E sz R := ⟨h.1, hm.heap h.2 hg⟩

/-- a part of a block's rows, as a source -/
theorem Blk.src {w : World} {g E sz : Nat} {R : List (List Value)} (h : Blk w g E sz R) (i n c : Nat) (ns : List (List Value)) (hns : (R.drop i).take n = ns) (hn : n = ns.length) : Src w sz (.slice (some ⟨g, i * sz, none⟩) n c) ns := by
  refine ⟨fun e he => h.1 e (by rw [← hns] at he; exact List.mem_of_mem_drop (List.mem_of_mem_take he)), .inr ⟨g, i * sz, c, by rw [← hn], ?_⟩⟩
  intro j u hu
  rw [cell_of_row w g _ _ _ _ h.2]
  subst hns
  rw [← flatten_take n (fun x hx => h.1 x (List.mem_of_mem_drop hx)), List.getElem?_take, ← flatten_drop i h.1, List.getElem?_drop] at hu
  split at hu
  · simpa using hu
  · cases hu

theorem Src.takeS {w : World} {sz b off n c : Nat} {es : List (List Value)} (h : Src w sz (.slice (some ⟨b, off, none⟩) n c) es) (i c' : Nat) (hi : i ≤ n) : Src w sz (.slice (some ⟨b, off, none⟩) i c') (es.take i) := by
  rcases h.2 with ⟨c0, h1, _⟩ | ⟨b', off', c0, h1, hr⟩
  · cases h1
  · cases h1
    refine ⟨fun e he => h.1 e (List.mem_of_mem_take he), .inr ⟨b, off, c', by rw [List.length_take, Nat.min_eq_left hi], fun j u hu => hr j u ?_⟩⟩
    have : es.flatten = (es.take i).flatten ++ (es.drop i).flatten := by rw [← List.flatten_append, List.take_append_drop]
    rw [this, List.getElem?_append_left (List.getElem?_eq_some_iff.1 hu).1]
    exact hu

theorem Src.dropS {w : World} {sz b off n c : Nat} {es : List (List Value)} (h : Src w sz (.slice (some ⟨b, off, none⟩) n c) es) (i c' : Nat) (hi : i ≤ n) : Src w sz (.slice (some ⟨b, off + i * sz, none⟩) (n - i) c') (es.drop i) := by
  rcases h.2 with ⟨c0, h1, _⟩ | ⟨b', off', c0, h1, hr⟩
  · cases h1
  · cases h1
    refine ⟨fun e he => h.1 e (List.mem_of_mem_drop he), .inr ⟨b, off + i * sz, c', by rw [List.length_drop], fun j u hu => ?_⟩⟩
    have := hr (i * sz + j) u (by rw [← List.getElem?_drop, flatten_drop i h.1]; exact hu)
    rwa [← Nat.add_assoc] at this

theorem Src.lt {w : World} {sz b off n c : Nat} {es : List (List Value)} (h : Src w (sz + 1) (.slice (some ⟨b, off, none⟩) n c) es) (hn : 0 < n) : b < w.heap.size := by
  rcases h.2 with ⟨c0, h1, _⟩ | ⟨b', off', c0, h1, hr⟩
  · cases h1
  · cases h1
    have hl := flatten_length h.1
    have : 0 < es.flatten.length := by rw [hl]; exact Nat.mul_pos hn (by omega)
    exact Go.block_lt_of_cell (hr 0 _ (List.getElem?_eq_getElem this))

theorem Src.empty (w : World) (sz g o c : Nat) : Src w sz (.slice (some ⟨g, o, none⟩) 0 c) [] := ⟨by simp, .inr ⟨g, o, c, rfl, by intro j u hu; simp at hu⟩⟩

theorem Src.take {w : World} {sz : Nat} {x : Value} {ns : List (List Value)} (h : Src w sz x ns) (m : Nat) : ∀ j u, (ns.take m).flatten[j]? = some u → ∃ a n c, x = .slice (some a) n c ∧ w.cell? (a.add j) = some u := by
  intro j u hu
  rcases h.2 with ⟨c, h1, h2⟩ | ⟨b, off, c, h1, h2⟩
  · subst h2; simp at hu
  · refine ⟨_, _, _, h1, ?_⟩
    rw [addr_add]
    refine h2 j u ?_
    have : ns.flatten = (ns.take m).flatten ++ (ns.drop m).flatten := by rw [← List.flatten_append, List.take_append_drop]
    rw [this, List.getElem?_append_left (List.getElem?_eq_some_iff.1 hu).1]
    exact hu

theorem run_copy_blk {P : Program} {t e size bytes : Nat} (T : STy P t e size bytes) (w : World) (ty g i dLen dCap : Nat) (x : Value) (R ns : List (List Value)) (hb : Blk w g e size R) (hx : Src w size x ns)
    (h1 : ∀ r ∈ ns, ∀ u ∈ r, u.oneCell' = true) (hfit : i + Nat.min ns.length dLen ≤ R.length) :
    ∃ w', (Builtin.copy_ #[t, t] ty #[.slice (some ⟨g, i * size, none⟩) dLen dCap, x]).run P w = .ok (goInt (Nat.min ns.length dLen)) w' ∧ Blk w' g e size (splice R i (ns.take (Nat.min ns.length dLen))) ∧ Mod [g] w w' := by
  obtain ⟨inf, z, hi, hz, hs, hby, hzs⟩ := T.info
  have hlen : ((ns.take (Nat.min ns.length dLen)).length) = Nat.min ns.length dLen := by rw [List.length_take]; exact Nat.min_eq_left (Nat.min_le_left _ _)
  have hrows : ∀ r ∈ ns.take (Nat.min ns.length dLen), r.length = size := fun r hr => hx.1 r (List.mem_of_mem_take hr)
  have hfl := flatten_length hrows
  rw [hlen] at hfl
  have h1' : ∀ u ∈ (ns.take (Nat.min ns.length dLen)).flatten, u.oneCell' = true := by
    intro u hu
    obtain ⟨r, hr, hur⟩ := List.mem_flatten.1 hu
    exact h1 r (List.mem_of_mem_take hr) u hur
  have hR := flatten_length hb.1
  have hfit2 : i * size + (ns.take (Nat.min ns.length dLen)).flatten.length ≤ R.flatten.length := by
    rw [hfl, hR, ← Nat.add_mul]; exact Nat.mul_le_mul_right _ hfit
  have hst := run_storeCells_at (P := P) g (i * size) e (ns.take (Nat.min ns.length dLen)).flatten 0 R.flatten.toArray w hb.2 (by simpa using hfit2) h1'
  have hlo : (Builtin.lenOf x).run P w = .ok ns.length w := by
    rcases hx.2 with ⟨c, rfl, rfl⟩ | ⟨b, off, c, rfl, _⟩ <;> simp [Builtin.lenOf]
  have hfc : (Builtin.firstCells size (Nat.min ns.length dLen) x).run P w = .ok (ns.take (Nat.min ns.length dLen)).flatten.toArray w := by
    rcases hx.2 with ⟨c, rfl, rfl⟩ | ⟨b, off, c, rfl, hr⟩
    · simp [Builtin.firstCells]
    · refine run_firstCells_some w size (Nat.min ns.length dLen) ⟨b, off, none⟩ ns.length c _ hfl (fun j v hv => ?_)
      obtain ⟨a, n', c', e1, e2⟩ := hx.take (Nat.min ns.length dLen) j v hv
      cases e1
      exact e2
  refine ⟨w.setRow g (splice R i (ns.take (Nat.min ns.length dLen))).flatten.toArray, ?_, ⟨?_, setRow_heap w g _ _ e _ hb.2⟩, (Mod.refl _ _).setRow _ _ (by simp)⟩
  · rw [← splice_flatten i hb.1 hrows]
    simp only [Builtin.copy_]
    simp [run_underlying T.u, sizeOf, typeInfo, hi, hs, hlo, hfc]
    have e1 : i * size + 0 = i * size := rfl
    simpa [splice] using congrArg (fun r => Result.andThen r (fun _ w' => Result.ok (goInt (Nat.min ns.length dLen)) w')) hst
  · intro r hr
    rcases mem_splice hr with hr | hr
    · exact hb.1 r hr
    · exact hrows r hr

theorem wpList_copy_blk {P : Program} {t e size bytes : Nat} (T : STy P t e size bytes) {ops : Array Oper} {rest : List Oper} {o : Oper} {a : Act} {w : World} {Q : Exit → Act → World → Prop} (hw : Region.wanted o (yielded ops a.tmps) = true) (d s : Operand)
    (hop : o.op = .call { callee := .builtin .copy, args := #[d, s], argTypes := #[t, t] }) (g i dLen dCap : Nat) (x : Value) (hd : a.eval d = .slice (some ⟨g, i * size, none⟩) dLen dCap) (hs : a.eval s = x)
    (R ns : List (List Value)) (hb : Blk w g e size R) (hx : Src w size x ns) (h1 : ∀ r ∈ ns, ∀ u ∈ r, u.oneCell' = true) (hfit : i + Nat.min ns.length dLen ≤ R.length)
    (h : ∀ w', Blk w' g e size (splice R i (ns.take (Nat.min ns.length dLen))) → Mod [g] w w' → wpList P ops Q rest (a.put o.dst (goInt (Nat.min ns.length dLen))) w') : wpList P ops Q (o :: rest) a w :=
  wpList_wanted hw fun _ hK => by
    obtain ⟨w', hr, h2, h3⟩ := run_copy_blk T w o.type g i dLen dCap x R ns hb hx h1 hfit
    unfold Oper.wp execOp
    simp only [hop, resolve, invoke, builtin, Sem.run_bind, Sem.run_pure, Result.andThen_ok, List.map_toArray, List.map_cons, List.map_nil, hd, hs, hr]
    exact hK _ _ (h w' h2 h3)

theorem zeroCells_list (zs : Array Value) (hz : 0 < zs.size) : ∀ n, (Builtin.zeroCells zs n).toList = (List.replicate n zs.toList).flatten := by
  intro n
  have hrep : ∀ e ∈ List.replicate n zs.toList, e.length = zs.size := by intro e he; rw [List.eq_of_mem_replicate he]; simp
  have hfl := flatten_length hrep
  rw [List.length_replicate] at hfl
  apply List.ext_getElem?
  intro j
  by_cases hj : j < n * zs.size
  · have hq : j / zs.size < n := Nat.div_lt_of_lt_mul (by rw [Nat.mul_comm]; exact hj)
    have hm : j % zs.size < zs.size := Nat.mod_lt _ hz
    have e1 := flatten_get hrep (j / zs.size) (j % zs.size) zs.toList (by simp [hq]) hm
    rw [show j / zs.size * zs.size + j % zs.size = j from Nat.div_add_mod' j zs.size] at e1
    rw [e1]
    simp [Builtin.zeroCells, hj, hm]
  · rw [List.getElem?_eq_none (by simp [Builtin.zeroCells]; omega), List.getElem?_eq_none (by rw [hfl]; omega)]

/-- append(s[:i], make([]T, m)...) that must grow -/
theorem wpList_append_zeros {P : Program} {t tn e size bytes : Nat} {kn : IntKind} {zrow : List Value} (T : STy P t e size bytes) (htn : P.underlying tn = some (.int kn)) (hzr : ((P.info? e).bind (·.zero)).map (·.cells.toList) = some zrow)
    {ops : Array Oper} {rest : List Oper} {o : Oper} {a : Act} {w : World} {Q : Exit → Act → World → Prop} (hw : Region.wanted o (yielded ops a.tmps) = true) (s y : Operand)
    (hop : o.op = .call { callee := .builtin .append, args := #[s, y], argTypes := #[t, tn] }) (v : Value) (base : Option Addr) (n c m : Nat) (hv : v = .slice base n c) (hs : a.eval s = v) (hy : a.eval y = .int .i64 m) (es : List (List Value)) (hn : n = es.length) (hx : Src w size v es)
    (tot : Nat) (htot : n + m = tot) (h0 : 0 < m) (hg : c < n + m) (hb : (n + m) * bytes ≤ 140737488355328) (hmx : n + m ≤ maxLen)
    (h : ∀ w' k, Blk w' w.heap.size e size (es ++ List.replicate (m + k) zrow) → Mod [] w w' → (tot + k ≤ maxLen) → wpList P ops Q rest (a.put o.dst (.slice (some ⟨w.heap.size, 0, none⟩) tot (tot + k))) w') : wpList P ops Q (o :: rest) a w :=
  wpList_wanted hw fun _ hK => by
    obtain ⟨i, z, hi, hz, hsz, hby, hzs⟩ := T.info
    subst hsz hby
    have hzrow : zrow = z.cells.toList := by simpa [hi, hz] using hzr.symm
    have hpos := T.pos
    have hfl := flatten_length hx.1
    have hold : (Builtin.firstCells i.size n (.slice base n c)).run P w.drew = .ok es.flatten.toArray w.drew := by
      rcases hx.2 with ⟨c', h1, rfl⟩ | ⟨b, off, c', h1, hr⟩
      · rw [hv] at h1; cases h1
        simp [Builtin.firstCells]
      · rw [hv] at h1; cases h1
        exact run_firstCells_some w.drew i.size es.length ⟨b, off, none⟩ es.length c _ hfl (fun j u hu => by rw [addr_add]; exact hr j u hu)
    have h2 : m * i.bytes ≤ 281474976710656 := by
      have : m * i.bytes ≤ (n + m) * i.bytes := Nat.mul_le_mul_right _ (by omega)
      omega
    have hsmall : n + m ≤ 9223372036854775807 := by simp only [maxLen] at hmx; omega
    have hrun := Lib.run_append_grow_zeros (P := P) w t tn o.type e i z .i64 kn T.u htn hi hz base n c es.flatten hold m h0 T.pos hg (by omega) h2 (growslice_fits (by omega) hb)
    obtain ⟨k, hk⟩ : ∃ k, grownCap w (n + m) c e = n + m + k := ⟨grownCap w (n + m) c e - (n + m), by have := grownCap_ge w (n + m) c e; omega⟩
    have hcm := grownCap_le_maxLen w (n + m) c e hmx
    rw [hk] at hrun hcm
    subst htot
    unfold Oper.wp execOp
    simp only [hop, resolve, invoke, builtin, Sem.run_bind, Sem.run_pure, Result.andThen_ok, List.map_toArray, List.map_cons, List.map_nil, hs, hv, hy, hrun]
    refine hK _ _ (h _ k ⟨?_, ?_⟩ (((Mod.refl [] w).drew).alloc _) hcm)
    · intro r hr
      rcases List.mem_append.1 hr with hr | hr
      · exact hx.1 r hr
      · rw [List.eq_of_mem_replicate hr, hzrow]; simpa using hzs
    · have e1 : (w.drew.alloc (.cells (es.flatten.toArray ++ Builtin.zeroCells z.cells m ++ Builtin.zeroCells z.cells (n + m + k - (n + m))) e)).heap[w.heap.size]? = some (.cells (es.flatten.toArray ++ Builtin.zeroCells z.cells m ++ Builtin.zeroCells z.cells (n + m + k - (n + m))) e (0, 0)) := heap_alloc_at w.drew _
      rw [e1]
      congr 2
      apply Array.ext'
      rw [Array.toList_append, Array.toList_append, zeroCells_list _ (by omega), zeroCells_list _ (by omega)]
      simp only [List.append_assoc]
      rw [← List.flatten_append, List.replicate_append_replicate, show m + (n + m + k - (n + m)) = m + k by omega, hzrow, ← List.flatten_append]

theorem splice_snoc {α : Type} (R xs : List α) (k : Nat) (x : α) (h : k + xs.length < R.length) : splice R k (xs ++ [x]) = (splice R k xs).set (k + xs.length) x := by
  unfold splice
  have h1 : (R.take k).length = k := by rw [List.length_take]; omega
  rw [List.set_append_right _ _ (by omega), h1, Nat.add_sub_cancel_left, List.set_append_right _ _ (Nat.le_refl _), Nat.sub_self, List.drop_eq_getElem_cons h, List.set_cons_zero, List.length_append, List.length_singleton]
  simp [Nat.add_assoc]

theorem splice_nil {α : Type} (R : List α) (k : Nat) : splice R k [] = R := by simp [splice]

theorem splice_getge {α : Type} (R xs : List α) (k j : Nat) (hk : k + xs.length ≤ R.length) (h : k + xs.length ≤ j) : (splice R k xs)[j]? = R[j]? := by
  unfold splice
  have h1 : (R.take k).length = k := by rw [List.length_take]; omega
  rw [List.getElem?_append_right (by omega), h1, List.getElem?_append_right (by omega), List.getElem?_drop]
  congr 1
  omega

theorem Blk.row {w : World} {g E sz : Nat} {R : List (List Value)} (h : Blk w g E sz R) {j : Nat} {r : List Value} (hj : R[j]? = some r) : Row w g (j * sz) r := by
  intro i u hu
  rw [cell_of_row w g _ _ _ _ h.2]
  have hr := h.1 r (List.mem_of_getElem? hj)
  have := flatten_get h.1 j i r hj (by rw [← hr]; exact (List.getElem?_eq_some_iff.1 hu).1)
  simpa [this] using hu

theorem Blk.setRow {w w' : World} {g E sz : Nat} {R : List (List Value)} (h : Blk w g E sz R) {i : Nat} {r : List Value} (hi : i < R.length) (hr : r.length = sz) (hw : w'.heap[g]? = some (.cells (splice R.flatten (i * sz) r).toArray E (0, 0))) : Blk w' g E sz (R.set i r) := by
  have e : splice R.flatten (i * sz) r = (R.set i r).flatten := by
    have e1 := splice_flatten (R := R) (ns := [r]) i h.1 (by simpa using hr)
    rw [show [r].flatten = r by simp] at e1
    rw [e1]
    congr 1
    have e2 := splice_snoc R [] i r (by simpa using hi)
    rw [List.nil_append, splice_nil] at e2
    simpa using e2
  refine ⟨fun x hx => ?_, by rw [hw, e]⟩
  rcases List.mem_or_eq_of_mem_set hx with hx | rfl
  · exact h.1 x hx
  · exact hr

theorem Blk.len {w : World} {g E sz : Nat} {R : List (List Value)} (h : Blk w g E sz R) : R.flatten.length = R.length * sz := flatten_length h.1

theorem wpList_clear_blk {P : Program} {t e size bytes : Nat} {zrow : List Value} (T : STy P t e size bytes) (hzr : ((P.info? e).bind (·.zero)).map (·.cells.toList) = some zrow) (hz1 : ∀ u ∈ zrow, u.oneCell' = true)
    {ops : Array Oper} {rest : List Oper} {o : Oper} {a : Act} {w : World} {Q : Exit → Act → World → Prop} (hw : Region.wanted o (yielded ops a.tmps) = true) (s : Operand)
    (hop : o.op = .call { callee := .builtin .clear, args := #[s], argTypes := #[t] }) (g i m c : Nat) (hs : a.eval s = .slice (some ⟨g, i * size, none⟩) m c) (hm : 0 < m) (R : List (List Value)) (hb : Blk w g e size R) (hfit : i + m ≤ R.length)
    (h : ∀ w', Blk w' g e size (splice R i (List.replicate m zrow)) → Mod [g] w w' → wpList P ops Q rest (a.put o.dst (.tuple #[])) w') : wpList P ops Q (o :: rest) a w :=
  wpList_wanted hw fun _ hK => by
    obtain ⟨inf, z, hi, hz, hsz, hby, hzs⟩ := T.info
    subst hsz
    have hpos := T.pos
    have hzrow : zrow = z.cells.toList := by simpa [hi, hz] using hzr.symm
    have hrl : ∀ r ∈ List.replicate m zrow, r.length = inf.size := by intro r hr; rw [List.eq_of_mem_replicate hr, hzrow]; simpa using hzs
    have hfl := flatten_length hrl
    rw [List.length_replicate] at hfl
    have hR := flatten_length hb.1
    have hfit2 : i * inf.size + (List.replicate m zrow).flatten.length ≤ R.flatten.length := by rw [hfl, hR, ← Nat.add_mul]; exact Nat.mul_le_mul_right _ hfit
    have h1 : ∀ u ∈ (List.replicate m zrow).flatten, u.oneCell' = true := by
      intro u hu
      obtain ⟨r, hr, hur⟩ := List.mem_flatten.1 hu
      rw [List.eq_of_mem_replicate hr] at hur
      exact hz1 u hur
    have hst := run_storeCells_at (P := P) g (i * inf.size) e (List.replicate m zrow).flatten 0 R.flatten.toArray w hb.2 (by simpa using hfit2) h1
    have hzc : (Builtin.zeroCells z.cells m).toList = (List.replicate m zrow).flatten := by rw [hzrow]; exact zeroCells_list _ (by omega) m
    have hzv : (zeroValue e).run P w = .ok z w := by simp [zeroValue, typeInfo, hi, hz]
    obtain ⟨m', rfl⟩ : ∃ m', m = m' + 1 := ⟨m - 1, by omega⟩
    have hst' : (storeCells ⟨g, i * inf.size, none⟩ (List.replicate (m' + 1) zrow).flatten 0).run P w = .ok () (w.setRow g (splice R.flatten (i * inf.size) (List.replicate (m' + 1) zrow).flatten).toArray) := by
      rw [hst]; simp [splice]
    have hrun : (Builtin.clear_ #[t] o.type #[.slice (some ⟨g, i * inf.size, none⟩) (m' + 1) c]).run P w = .ok (.tuple #[]) (w.setRow g (splice R.flatten (i * inf.size) (List.replicate (m' + 1) zrow).flatten).toArray) := by
      simp [Builtin.clear_, run_underlying T.u, hzv, hzc, hst']
    unfold Oper.wp execOp
    simp only [hop, resolve, invoke, builtin, Sem.run_bind, Sem.run_pure, Result.andThen_ok, List.map_toArray, List.map_cons, List.map_nil, hs, hrun]
    refine hK _ _ (h _ ⟨?_, ?_⟩ ((Mod.refl _ _).setRow _ _ (by simp)))
    · intro r hr
      rcases mem_splice hr with hr | hr
      · exact hb.1 r hr
      · exact hrl r hr
    · rw [← splice_flatten i hb.1 hrl]
      exact setRow_heap w g _ _ e _ hb.2

/-- append that must grow: only what is read counts -/
theorem wpList_append_grow {P : Program} {t e size bytes : Nat} (T : STy P t e size bytes) {ops : Array Oper} {rest : List Oper} {o : Oper} {a : Act} {w : World} {Q : Exit → Act → World → Prop} (hw : Region.wanted o (yielded ops a.tmps) = true) (s y : Operand)
    (hop : o.op = .call { callee := .builtin .append, args := #[s, y], argTypes := #[t, t] }) (b off n c b2 off2 m c2 : Nat) (hs : a.eval s = .slice (some ⟨b, off, none⟩) n c) (hy : a.eval y = .slice (some ⟨b2, off2, none⟩) m c2)
    (es ns : List (List Value)) (hn : n = es.length) (hm : m = ns.length) (hx : Src w size (.slice (some ⟨b, off, none⟩) n c) es) (hx2 : Src w size (.slice (some ⟨b2, off2, none⟩) m c2) ns)
    (hg : c < n + m) (hb : (n + m) * bytes ≤ 140737488355328) (hmx : n + m ≤ maxLen)
    (h : ∀ w' k, Own w' e size (.slice (some ⟨w.heap.size, 0, none⟩) (n + m) (n + m + k)) (es ++ ns) → Mod [] w w' → wpList P ops Q rest (a.put o.dst (.slice (some ⟨w.heap.size, 0, none⟩) (n + m) (n + m + k))) w') : wpList P ops Q (o :: rest) a w :=
  wpList_wanted hw fun _ hK => by
    obtain ⟨i, z, hi, hz, hsz, hby, hzs⟩ := T.info
    subst hsz hby
    have hfl := flatten_length hx.1
    have hfl2 := flatten_length hx2.1
    have r1 : ∀ j u, es.flatten[j]? = some u → w.cell? ((⟨b, off, none⟩ : Addr).add j) = some u := by
      intro j u hu
      rcases hx.2 with ⟨c', h1, _⟩ | ⟨b', off', c', h1, hr⟩
      · cases h1
      · cases h1; rw [addr_add]; exact hr j u hu
    have r2 : ∀ j u, ns.flatten[j]? = some u → w.cell? ((⟨b2, off2, none⟩ : Addr).add j) = some u := by
      intro j u hu
      rcases hx2.2 with ⟨c', h1, _⟩ | ⟨b', off', c', h1, hr⟩
      · cases h1
      · cases h1; rw [addr_add]; exact hr j u hu
    have hsmall : n + m ≤ 9223372036854775807 := by simp only [maxLen] at hmx; omega
    have hrun := run_append_grow (P := P) w t o.type e i z T.u hi hz ⟨b, off, none⟩ n c es.flatten (by rw [hn]; exact hfl) r1 ⟨b2, off2, none⟩ m c2 ns.flatten (by rw [hm]; exact hfl2) r2 hg (by omega) (growslice_fits (by omega) hb)
    obtain ⟨k, hk⟩ : ∃ k, grownCap w (n + m) c e = n + m + k := ⟨grownCap w (n + m) c e - (n + m), by have := grownCap_ge w (n + m) c e; omega⟩
    have hcm := grownCap_le_maxLen w (n + m) c e hmx
    rw [hk] at hrun hcm
    have hpos := T.pos
    unfold Oper.wp execOp
    simp only [hop, resolve, invoke, builtin, Sem.run_bind, Sem.run_pure, Result.andThen_ok, List.map_toArray, List.map_cons, List.map_nil, hs, hy, hrun]
    refine hK _ _ (h _ k ?_ (((Mod.refl [] w).drew).alloc _))
    have e1 := heap_alloc_at w.drew (.cells (es.flatten.toArray ++ ns.flatten.toArray ++ Builtin.zeroCells z.cells (n + m + k - (n + m))) e)
    have ha : ∀ r ∈ es ++ ns, r.length = i.size := by
      intro r hr
      rcases List.mem_append.1 hr with hr | hr
      · exact hx.1 r hr
      · exact hx2.1 r hr
    have hfa := flatten_length ha
    have hl : (es ++ ns).length = n + m := by rw [List.length_append, hn, hm]
    refine ⟨ha, hfa, .inr ⟨w.heap.size, n + m + k, _, by rw [hl], Nat.zero_le _, e1, by rw [hl]; omega, hcm, ?_, ?_⟩⟩
    · have hz1 : (Builtin.zeroCells z.cells (n + m + k - (n + m))).size = k * i.size := by rw [size_zeroCells, hzs]; congr 1; omega
      have hfe : (es ++ ns).flatten.length = es.flatten.length + ns.flatten.length := by rw [List.flatten_append, List.length_append]
      rw [Array.size_append, Array.size_append, hz1, List.size_toArray, List.size_toArray, ← hfe, hfa, hl, ← Nat.add_mul]
    · rw [← hfa, Array.toList_append, Array.toList_append, ← List.flatten_append]
      exact List.take_left

end Go.Proofs.Ytknkifanpppglaa
