/- A block as a list of rows: copy, clear, append of zeros. -/
import Derived.Test.YtknkifanpppglaaMA
import Derived.Lib.AppendZerosOnto
import Derived.Test.YtknkifanpppglaaMB
import Derived.StillTailTactics
import Derived.Deep.RegionHeld3
import Derived.Deep.RegionWith
import Derived.Lib.Overlaps
import Derived.Great.BuildSlice
namespace Go.Proofs.Ytknkifanpppglaa
open Go.RowKit

/-- block g holds exactly the rows R -/
def Blk (w : World) (g E sz : Nat) (R : List (List Value)) : Prop := (∀ r ∈ R, r.length = sz) ∧ w.heap[g]? = some (.cells R.flatten.toArray E (0, 0))

theorem chop (sz : Nat) : ∀ (n : Nat) (cur : List Value), cur.length = n * sz → ∃ R : List (List Value), R.length = n ∧ (∀ r ∈ R, r.length = sz) ∧ R.flatten = cur
  | 0, cur, h => ⟨[], rfl, by simp, by have : cur = [] := List.eq_nil_of_length_eq_zero (by simpa using h)
                                       simp [this]⟩
  | n + 1, cur, h => by
    have hl : (cur.drop sz).length = n * sz := by rw [List.length_drop, h, Nat.add_mul]; omega
    obtain ⟨R, h1, h2, h3⟩ := chop sz n (cur.drop sz) hl
    refine ⟨cur.take sz :: R, by simp [h1], ?_, ?_⟩
    · intro r hr
      rcases List.mem_cons.1 hr with rfl | hr
      · rw [List.length_take, h, Nat.add_mul]; omega
      · exact h2 r hr
    · rw [List.flatten_cons, h3, List.take_append_drop]

theorem flatten_take {sz : Nat} : ∀ {R : List (List Value)} (n : Nat), (∀ r ∈ R, r.length = sz) → R.flatten.take (n * sz) = (R.take n).flatten
  | [], n, _ => by simp
  | r :: R, 0, _ => by simp
  | r :: R, n + 1, h => by
    have hr := h r (by simp)
    rw [List.flatten_cons, List.take_succ_cons, List.flatten_cons, ← flatten_take n (fun x hx => h x (by simp [hx])), Nat.add_mul, Nat.one_mul, List.take_append, List.take_of_length_le (by omega)]
    congr 2
    omega

theorem flatten_drop {sz : Nat} : ∀ {R : List (List Value)} (n : Nat), (∀ r ∈ R, r.length = sz) → R.flatten.drop (n * sz) = (R.drop n).flatten
  | [], n, _ => by simp
  | r :: R, 0, _ => by simp
  | r :: R, n + 1, h => by
    have hr := h r (by simp)
    rw [List.flatten_cons, List.drop_succ_cons, ← flatten_drop n (fun x hx => h x (by simp [hx])), Nat.add_mul, Nat.one_mul, List.drop_append, List.drop_of_length_le (by omega), List.nil_append]
    congr 1
    omega

theorem splice_flatten {sz : Nat} {R ns : List (List Value)} (i : Nat) (h : ∀ r ∈ R, r.length = sz) (hn : ∀ r ∈ ns, r.length = sz) : splice R.flatten (i * sz) ns.flatten = (splice R i ns).flatten := by
  unfold splice
  rw [flatten_take i h, flatten_length hn, ← Nat.add_mul, flatten_drop _ h, List.flatten_append, List.flatten_append]

theorem mem_splice {α : Type} {R ns : List α} {i : Nat} {x : α} (h : x ∈ splice R i ns) : x ∈ R ∨ x ∈ ns := by
  unfold splice at h
  rcases List.mem_append.1 h with h | h
  · exact .inl (List.mem_of_mem_take h)
  · rcases List.mem_append.1 h with h | h
    · exact .inr h
    · exact .inl (List.mem_of_mem_drop h)

theorem Own.blk {w : World} {E sz b n cap : Nat} {es : List (List Value)} (h : Own w E sz (.slice (some ⟨b, 0, none⟩) n cap) es) :
    ∃ R, Blk w b E sz R ∧ R.length = cap ∧ R.take n = es ∧ n = es.length ∧ n ≤ cap ∧ cap ≤ maxLen := by
  rcases h.shape with ⟨h1, _⟩ | ⟨b', cap', cur, h1, h2, h3, h4, h5, h6, h7⟩
  · cases h1
  · cases h1
    obtain ⟨R, r1, r2, r3⟩ := chop sz cap cur.toList (by simpa using h6)
    refine ⟨R, ⟨r2, by rw [r3]; simpa using h5⟩, r1, ?_, rfl, h3, h4⟩
    rw [← r3, flatten_take _ r2] at h7
    have e1 : (R.take es.length).length = es.length := by rw [List.length_take, r1]; omega
    apply List.ext_getElem?
    intro k
    by_cases hk : k < es.length
    · have hk1 : k < (R.take es.length).length := by omega
      rw [List.getElem?_eq_getElem hk, List.getElem?_eq_getElem hk1]
      congr 1
      apply List.ext_getElem?
      intro j
      have ha := fun x hx => r2 x (List.mem_of_mem_take (i := es.length) hx)
      by_cases hj : j < sz
      · have g1 := flatten_get ha k j _ (List.getElem?_eq_getElem hk1) hj
        have g2 := flatten_get h.1 k j _ (List.getElem?_eq_getElem hk) hj
        rw [← g1, ← g2, h7]
      · have l1 := ha _ (List.getElem_mem hk1)
        have l2 := h.1 _ (List.getElem_mem hk)
        rw [List.getElem?_eq_none (by omega), List.getElem?_eq_none (by omega)]
    · rw [List.getElem?_eq_none (by omega), List.getElem?_eq_none (by omega)]

theorem Blk.own {w : World} {g E sz : Nat} {R : List (List Value)} (h : Blk w g E sz R) (n : Nat) (hn : n ≤ R.length) (hm : R.length ≤ maxLen) (es : List (List Value)) (he : R.take n = es) :
    Own w E sz (.slice (some ⟨g, 0, none⟩) n R.length) es := by
  subst he
  have hl : (R.take n).length = n := by rw [List.length_take]; omega
  have ha := fun x hx => h.1 x (List.mem_of_mem_take (i := n) hx)
  refine ⟨ha, flatten_length ha, .inr ⟨g, R.length, _, by rw [hl], Nat.zero_le _, h.2, by rw [hl]; exact hn, hm, by simpa using flatten_length h.1, ?_⟩⟩
  rw [hl]
  exact flatten_take n h.1

theorem Blk.mod {S : List Nat} {w w' : World} (hm : Mod S w w') {g E sz : Nat} {R : List (List Value)} (h : Blk w g E sz R) (hg : g ∉ S) : Blk w' g E sz R := ⟨h.1, hm.heap h.2 hg⟩

/-- a part of a block's rows, as a source -/
theorem Blk.src {w : World} {g E sz : Nat} {R : List (List Value)} (h : Blk w g E sz R) (i n c : Nat) (ns : List (List Value)) (hns : (R.drop i).take n = ns) (hn : n = ns.length) : Src w sz (.slice (some ⟨g, i * sz, none⟩) n c) ns := by
  refine ⟨fun e he => h.1 e (by rw [← hns] at he; exact List.mem_of_mem_drop (List.mem_of_mem_take he)), .inr ⟨g, i * sz, c, by rw [← hn], ?_⟩⟩
  intro j u hu
  rw [cell_of_row w g _ _ _ _ h.2]
  subst hns
  rw [← flatten_take n (fun x hx => h.1 x (List.mem_of_mem_drop hx)), List.getElem?_take, ← flatten_drop i h.1, List.getElem?_drop] at hu
  split at hu
  · simpa using hu
  · cases hu

theorem Src.takeS {w : World} {sz b off n c : Nat} {es : List (List Value)} (h : Src w sz (.slice (some ⟨b, off, none⟩) n c) es) (i c' : Nat) (hi : i ≤ n) : Src w sz (.slice (some ⟨b, off, none⟩) i c') (es.take i) := by
  rcases h.2 with ⟨c0, h1, _⟩ | ⟨b', off', c0, h1, hr⟩
  · cases h1
  · cases h1
    refine ⟨fun e he => h.1 e (List.mem_of_mem_take he), .inr ⟨b, off, c', by rw [List.length_take, Nat.min_eq_left hi], fun j u hu => hr j u ?_⟩⟩
    have : es.flatten = (es.take i).flatten ++ (es.drop i).flatten := by rw [← List.flatten_append, List.take_append_drop]
    rw [this, List.getElem?_append_left (List.getElem?_eq_some_iff.1 hu).1]
    exact hu

theorem Src.dropS {w : World} {sz b off n c : Nat} {es : List (List Value)} (h : Src w sz (.slice (some ⟨b, off, none⟩) n c) es) (i c' : Nat) (hi : i ≤ n) : Src w sz (.slice (some ⟨b, off + i * sz, none⟩) (n - i) c') (es.drop i) := by
  rcases h.2 with ⟨c0, h1, _⟩ | ⟨b', off', c0, h1, hr⟩
  · cases h1
  · cases h1
    refine ⟨fun e he => h.1 e (List.mem_of_mem_drop he), .inr ⟨b, off + i * sz, c', by rw [List.length_drop], fun j u hu => ?_⟩⟩
    have := hr (i * sz + j) u (by rw [← List.getElem?_drop, flatten_drop i h.1]; exact hu)
    rwa [← Nat.add_assoc] at this

theorem Src.lt {w : World} {sz b off n c : Nat} {es : List (List Value)} (h : Src w (sz + 1) (.slice (some ⟨b, off, none⟩) n c) es) (hn : 0 < n) : b < w.heap.size := by
  rcases h.2 with ⟨c0, h1, _⟩ | ⟨b', off', c0, h1, hr⟩
  · cases h1
  · cases h1
    have hl := flatten_length h.1
    have : 0 < es.flatten.length := by rw [hl]; exact Nat.mul_pos hn (by omega)
    exact Go.block_lt_of_cell (hr 0 _ (List.getElem?_eq_getElem this))

theorem Src.empty (w : World) (sz g o c : Nat) : Src w sz (.slice (some ⟨g, o, none⟩) 0 c) [] := ⟨by simp, .inr ⟨g, o, c, rfl, by intro j u hu; simp at hu⟩⟩

theorem Src.take {w : World} {sz : Nat} {x : Value} {ns : List (List Value)} (h : Src w sz x ns) (m : Nat) : ∀ j u, (ns.take m).flatten[j]? = some u → ∃ a n c, x = .slice (some a) n c ∧ w.cell? (a.add j) = some u := by
  intro j u hu
  rcases h.2 with ⟨c, h1, h2⟩ | ⟨b, off, c, h1, h2⟩
  · subst h2; simp at hu
  · refine ⟨_, _, _, h1, ?_⟩
    rw [addr_add]
    refine h2 j u ?_
    have : ns.flatten = (ns.take m).flatten ++ (ns.drop m).flatten := by rw [← List.flatten_append, List.take_append_drop]
    rw [this, List.getElem?_append_left (List.getElem?_eq_some_iff.1 hu).1]
    exact hu

theorem run_copy_blk {P : Program} {t e size bytes : Nat} (T : STy P t e size bytes) (w : World) (ty g i dLen dCap : Nat) (x : Value) (R ns : List (List Value)) (hb : Blk w g e size R) (hx : Src w size x ns)
    (h1 : ∀ r ∈ ns, ∀ u ∈ r, u.oneCell' = true) (hfit : i + Nat.min ns.length dLen ≤ R.length) :
    ∃ w', (Builtin.copy_ #[t, t] ty #[.slice (some ⟨g, i * size, none⟩) dLen dCap, x]).run P w = .ok (goInt (Nat.min ns.length dLen)) w' ∧ Blk w' g e size (splice R i (ns.take (Nat.min ns.length dLen))) ∧ Mod [g] w w' := by
  obtain ⟨inf, z, hi, hz, hs, hby, hzs⟩ := T.info
  have hlen : ((ns.take (Nat.min ns.length dLen)).length) = Nat.min ns.length dLen := by rw [List.length_take]; exact Nat.min_eq_left (Nat.min_le_left _ _)
  have hrows : ∀ r ∈ ns.take (Nat.min ns.length dLen), r.length = size := fun r hr => hx.1 r (List.mem_of_mem_take hr)
  have hfl := flatten_length hrows
  rw [hlen] at hfl
  have h1' : ∀ u ∈ (ns.take (Nat.min ns.length dLen)).flatten, u.oneCell' = true := by
    intro u hu
    obtain ⟨r, hr, hur⟩ := List.mem_flatten.1 hu
    exact h1 r (List.mem_of_mem_take hr) u hur
  have hR := flatten_length hb.1
  have hfit2 : i * size + (ns.take (Nat.min ns.length dLen)).flatten.length ≤ R.flatten.length := by
    rw [hfl, hR, ← Nat.add_mul]; exact Nat.mul_le_mul_right _ hfit
  have hst := run_storeCells_at (P := P) g (i * size) e (ns.take (Nat.min ns.length dLen)).flatten 0 R.flatten.toArray w hb.2 (by simpa using hfit2) h1'
  have hlo : (Builtin.lenOf x).run P w = .ok ns.length w := by
    rcases hx.2 with ⟨c, rfl, rfl⟩ | ⟨b, off, c, rfl, _⟩ <;> simp [Builtin.lenOf]
  have hfc : (Builtin.firstCells size (Nat.min ns.length dLen) x).run P w = .ok (ns.take (Nat.min ns.length dLen)).flatten.toArray w := by
    rcases hx.2 with ⟨c, rfl, rfl⟩ | ⟨b, off, c, rfl, hr⟩
    · simp [Builtin.firstCells]
    · refine run_firstCells_some w size (Nat.min ns.length dLen) ⟨b, off, none⟩ ns.length c _ hfl (fun j v hv => ?_)
      obtain ⟨a, n', c', e1, e2⟩ := hx.take (Nat.min ns.length dLen) j v hv
      cases e1
      exact e2
  refine ⟨w.setRow g (splice R i (ns.take (Nat.min ns.length dLen))).flatten.toArray, ?_, ⟨?_, setRow_heap w g _ _ e _ hb.2⟩, (Mod.refl _ _).setRow _ _ (by simp)⟩
  · rw [← splice_flatten i hb.1 hrows]
    simp only [Builtin.copy_]
    simp [run_underlying T.u, sizeOf, typeInfo, hi, hs, hlo, hfc]
    have e1 : i * size + 0 = i * size := rfl
    simpa [splice] using congrArg (fun r => Result.andThen r (fun _ w' => Result.ok (goInt (Nat.min ns.length dLen)) w')) hst
  · intro r hr
    rcases mem_splice hr with hr | hr
    · exact hb.1 r hr
    · exact hrows r hr

theorem wpList_copy_blk {P : Program} {t e size bytes : Nat} (T : STy P t e size bytes) {ops : Array Oper} {rest : List Oper} {o : Oper} {a : Act} {w : World} {Q : Exit → Act → World → Prop} (hw : Region.wanted o (yielded ops a.tmps) = true) (d s : Operand)
    (hop : o.op = .call { callee := .builtin .copy, args := #[d, s], argTypes := #[t, t] }) (g i dLen dCap : Nat) (x : Value) (hd : a.eval d = .slice (some ⟨g, i * size, none⟩) dLen dCap) (hs : a.eval s = x)
    (R ns : List (List Value)) (hb : Blk w g e size R) (hx : Src w size x ns) (h1 : ∀ r ∈ ns, ∀ u ∈ r, u.oneCell' = true) (hfit : i + Nat.min ns.length dLen ≤ R.length)
    (h : ∀ w', Blk w' g e size (splice R i (ns.take (Nat.min ns.length dLen))) → Mod [g] w w' → wpList P ops Q rest (a.put o.dst (goInt (Nat.min ns.length dLen))) w') : wpList P ops Q (o :: rest) a w :=
  wpList_wanted hw fun _ hK => by
    obtain ⟨w', hr, h2, h3⟩ := run_copy_blk T w o.type g i dLen dCap x R ns hb hx h1 hfit
    unfold Oper.wp execOp
    simp only [hop, resolve, invoke, builtin, Sem.run_bind, Sem.run_pure, Result.andThen_ok, List.map_toArray, List.map_cons, List.map_nil, hd, hs, hr]
    exact hK _ _ (h w' h2 h3)

theorem zeroCells_list (zs : Array Value) (hz : 0 < zs.size) : ∀ n, (Builtin.zeroCells zs n).toList = (List.replicate n zs.toList).flatten := by
  intro n
  have hrep : ∀ e ∈ List.replicate n zs.toList, e.length = zs.size := by intro e he; rw [List.eq_of_mem_replicate he]; simp
  have hfl := flatten_length hrep
  rw [List.length_replicate] at hfl
  apply List.ext_getElem?
  intro j
  by_cases hj : j < n * zs.size
  · have hq : j / zs.size < n := Nat.div_lt_of_lt_mul (by rw [Nat.mul_comm]; exact hj)
    have hm : j % zs.size < zs.size := Nat.mod_lt _ hz
    have e1 := flatten_get hrep (j / zs.size) (j % zs.size) zs.toList (by simp [hq]) hm
    rw [show j / zs.size * zs.size + j % zs.size = j from Nat.div_add_mod' j zs.size] at e1
    rw [e1]
    simp [Builtin.zeroCells, hj, hm]
  · rw [List.getElem?_eq_none (by simp [Builtin.zeroCells]; omega), List.getElem?_eq_none (by rw [hfl]; omega)]

/-- append(s[:i], make([]T, m)...) that must grow -/
theorem wpList_append_zeros {P : Program} {t tn e size bytes : Nat} {kn : IntKind} {zrow : List Value} (T : STy P t e size bytes) (htn : P.underlying tn = some (.int kn)) (hzr : ((P.info? e).bind (·.zero)).map (·.cells.toList) = some zrow)
    {ops : Array Oper} {rest : List Oper} {o : Oper} {a : Act} {w : World} {Q : Exit → Act → World → Prop} (hw : Region.wanted o (yielded ops a.tmps) = true) (s y : Operand)
    (hop : o.op = .call { callee := .builtin .append, args := #[s, y], argTypes := #[t, tn] }) (v : Value) (base : Option Addr) (n c m : Nat) (hv : v = .slice base n c) (hs : a.eval s = v) (hy : a.eval y = .int .i64 m) (es : List (List Value)) (hn : n = es.length) (hx : Src w size v es)
    (tot : Nat) (htot : n + m = tot) (h0 : 0 < m) (hg : c < n + m) (hb : (n + m) * bytes ≤ 140737488355328) (hmx : n + m ≤ maxLen)
    (h : ∀ w' k, Blk w' w.heap.size e size (es ++ List.replicate (m + k) zrow) → Mod [] w w' → (tot + k ≤ maxLen) → wpList P ops Q rest (a.put o.dst (.slice (some ⟨w.heap.size, 0, none⟩) tot (tot + k))) w') : wpList P ops Q (o :: rest) a w :=
  wpList_wanted hw fun _ hK => by
    obtain ⟨i, z, hi, hz, hsz, hby, hzs⟩ := T.info
    subst hsz hby
    have hzrow : zrow = z.cells.toList := by simpa [hi, hz] using hzr.symm
    have hpos := T.pos
    have hfl := flatten_length hx.1
    have hold : (Builtin.firstCells i.size n (.slice base n c)).run P w.drew = .ok es.flatten.toArray w.drew := by
      rcases hx.2 with ⟨c', h1, rfl⟩ | ⟨b, off, c', h1, hr⟩
      · rw [hv] at h1; cases h1
        simp [Builtin.firstCells]
      · rw [hv] at h1; cases h1
        exact run_firstCells_some w.drew i.size es.length ⟨b, off, none⟩ es.length c _ hfl (fun j u hu => by rw [addr_add]; exact hr j u hu)
    have h2 : m * i.bytes ≤ 281474976710656 := by
      have : m * i.bytes ≤ (n + m) * i.bytes := Nat.mul_le_mul_right _ (by omega)
      omega
    have hsmall : n + m ≤ 9223372036854775807 := by simp only [maxLen] at hmx; omega
    have hrun := Lib.run_append_grow_zeros (P := P) w t tn o.type e i z .i64 kn T.u htn hi hz base n c es.flatten hold m h0 T.pos hg (by omega) h2 (growslice_fits (by omega) hb)
    obtain ⟨k, hk⟩ : ∃ k, grownCap w (n + m) c e = n + m + k := ⟨grownCap w (n + m) c e - (n + m), by have := grownCap_ge w (n + m) c e; omega⟩
    have hcm := grownCap_le_maxLen w (n + m) c e hmx
    rw [hk] at hrun hcm
    subst htot
    unfold Oper.wp execOp
    simp only [hop, resolve, invoke, builtin, Sem.run_bind, Sem.run_pure, Result.andThen_ok, List.map_toArray, List.map_cons, List.map_nil, hs, hv, hy, hrun]
    refine hK _ _ (h _ k ⟨?_, ?_⟩ (((Mod.refl [] w).drew).alloc _) hcm)
    · intro r hr
      rcases List.mem_append.1 hr with hr | hr
      · exact hx.1 r hr
      · rw [List.eq_of_mem_replicate hr, hzrow]; simpa using hzs
    · have e1 : (w.drew.alloc (.cells (es.flatten.toArray ++ Builtin.zeroCells z.cells m ++ Builtin.zeroCells z.cells (n + m + k - (n + m))) e)).heap[w.heap.size]? = some (.cells (es.flatten.toArray ++ Builtin.zeroCells z.cells m ++ Builtin.zeroCells z.cells (n + m + k - (n + m))) e (0, 0)) := heap_alloc_at w.drew _
      rw [e1]
      congr 2
      apply Array.ext'
      rw [Array.toList_append, Array.toList_append, zeroCells_list _ (by omega), zeroCells_list _ (by omega)]
      simp only [List.append_assoc]
      rw [← List.flatten_append, List.replicate_append_replicate, show m + (n + m + k - (n + m)) = m + k by omega, hzrow, ← List.flatten_append]

theorem splice_snoc {α : Type} (R xs : List α) (k : Nat) (x : α) (h : k + xs.length < R.length) : splice R k (xs ++ [x]) = (splice R k xs).set (k + xs.length) x := by
  unfold splice
  have h1 : (R.take k).length = k := by rw [List.length_take]; omega
  rw [List.set_append_right _ _ (by omega), h1, Nat.add_sub_cancel_left, List.set_append_right _ _ (Nat.le_refl _), Nat.sub_self, List.drop_eq_getElem_cons h, List.set_cons_zero, List.length_append, List.length_singleton]
  simp [Nat.add_assoc]

theorem splice_nil {α : Type} (R : List α) (k : Nat) : splice R k [] = R := by simp [splice]

theorem splice_getge {α : Type} (R xs : List α) (k j : Nat) (hk : k + xs.length ≤ R.length) (h : k + xs.length ≤ j) : (splice R k xs)[j]? = R[j]? := by
  unfold splice
  have h1 : (R.take k).length = k := by rw [List.length_take]; omega
  rw [List.getElem?_append_right (by omega), h1, List.getElem?_append_right (by omega), List.getElem?_drop]
  congr 1
  omega

theorem Blk.row {w : World} {g E sz : Nat} {R : List (List Value)} (h : Blk w g E sz R) {j : Nat} {r : List Value} (hj : R[j]? = some r) : Row w g (j * sz) r := by
  intro i u hu
  rw [cell_of_row w g _ _ _ _ h.2]
  have hr := h.1 r (List.mem_of_getElem? hj)
  have := flatten_get h.1 j i r hj (by rw [← hr]; exact (List.getElem?_eq_some_iff.1 hu).1)
  simpa [this] using hu

theorem Blk.setRow {w w' : World} {g E sz : Nat} {R : List (List Value)} (h : Blk w g E sz R) {i : Nat} {r : List Value} (hi : i < R.length) (hr : r.length = sz) (hw : w'.heap[g]? = some (.cells (splice R.flatten (i * sz) r).toArray E (0, 0))) : Blk w' g E sz (R.set i r) := by
  have e : splice R.flatten (i * sz) r = (R.set i r).flatten := by
    have e1 := splice_flatten (R := R) (ns := [r]) i h.1 (by simpa using hr)
    rw [show [r].flatten = r by simp] at e1
    rw [e1]
    congr 1
    have e2 := splice_snoc R [] i r (by simpa using hi)
    rw [List.nil_append, splice_nil] at e2
    simpa using e2
  refine ⟨fun x hx => ?_, by rw [hw, e]⟩
  rcases List.mem_or_eq_of_mem_set hx with hx | rfl
  · exact h.1 x hx
  · exact hr

theorem Blk.len {w : World} {g E sz : Nat} {R : List (List Value)} (h : Blk w g E sz R) : R.flatten.length = R.length * sz := flatten_length h.1

theorem wpList_clear_blk {P : Program} {t e size bytes : Nat} {zrow : List Value} (T : STy P t e size bytes) (hzr : ((P.info? e).bind (·.zero)).map (·.cells.toList) = some zrow) (hz1 : ∀ u ∈ zrow, u.oneCell' = true)
    {ops : Array Oper} {rest : List Oper} {o : Oper} {a : Act} {w : World} {Q : Exit → Act → World → Prop} (hw : Region.wanted o (yielded ops a.tmps) = true) (s : Operand)
    (hop : o.op = .call { callee := .builtin .clear, args := #[s], argTypes := #[t] }) (g i m c : Nat) (hs : a.eval s = .slice (some ⟨g, i * size, none⟩) m c) (hm : 0 < m) (R : List (List Value)) (hb : Blk w g e size R) (hfit : i + m ≤ R.length)
    (h : ∀ w', Blk w' g e size (splice R i (List.replicate m zrow)) → Mod [g] w w' → wpList P ops Q rest (a.put o.dst (.tuple #[])) w') : wpList P ops Q (o :: rest) a w :=
  wpList_wanted hw fun _ hK => by
    obtain ⟨inf, z, hi, hz, hsz, hby, hzs⟩ := T.info
    subst hsz
    have hpos := T.pos
    have hzrow : zrow = z.cells.toList := by simpa [hi, hz] using hzr.symm
    have hrl : ∀ r ∈ List.replicate m zrow, r.length = inf.size := by intro r hr; rw [List.eq_of_mem_replicate hr, hzrow]; simpa using hzs
    have hfl := flatten_length hrl
    rw [List.length_replicate] at hfl
    have hR := flatten_length hb.1
    have hfit2 : i * inf.size + (List.replicate m zrow).flatten.length ≤ R.flatten.length := by rw [hfl, hR, ← Nat.add_mul]; exact Nat.mul_le_mul_right _ hfit
    have h1 : ∀ u ∈ (List.replicate m zrow).flatten, u.oneCell' = true := by
      intro u hu
      obtain ⟨r, hr, hur⟩ := List.mem_flatten.1 hu
      rw [List.eq_of_mem_replicate hr] at hur
      exact hz1 u hur
    have hst := run_storeCells_at (P := P) g (i * inf.size) e (List.replicate m zrow).flatten 0 R.flatten.toArray w hb.2 (by simpa using hfit2) h1
    have hzc : (Builtin.zeroCells z.cells m).toList = (List.replicate m zrow).flatten := by rw [hzrow]; exact zeroCells_list _ (by omega) m
    have hzv : (zeroValue e).run P w = .ok z w := by simp [zeroValue, typeInfo, hi, hz]
    obtain ⟨m', rfl⟩ : ∃ m', m = m' + 1 := ⟨m - 1, by omega⟩
    have hst' : (storeCells ⟨g, i * inf.size, none⟩ (List.replicate (m' + 1) zrow).flatten 0).run P w = .ok () (w.setRow g (splice R.flatten (i * inf.size) (List.replicate (m' + 1) zrow).flatten).toArray) := by
      rw [hst]; simp [splice]
    have hrun : (Builtin.clear_ #[t] o.type #[.slice (some ⟨g, i * inf.size, none⟩) (m' + 1) c]).run P w = .ok (.tuple #[]) (w.setRow g (splice R.flatten (i * inf.size) (List.replicate (m' + 1) zrow).flatten).toArray) := by
      simp [Builtin.clear_, run_underlying T.u, hzv, hzc, hst']
    unfold Oper.wp execOp
    simp only [hop, resolve, invoke, builtin, Sem.run_bind, Sem.run_pure, Result.andThen_ok, List.map_toArray, List.map_cons, List.map_nil, hs, hrun]
    refine hK _ _ (h _ ⟨?_, ?_⟩ ((Mod.refl _ _).setRow _ _ (by simp)))
    · intro r hr
      rcases mem_splice hr with hr | hr
      · exact hb.1 r hr
      · exact hrl r hr
    · rw [← splice_flatten i hb.1 hrl]
      exact setRow_heap w g _ _ e _ hb.2

/-- append that must grow: only what is read counts -/
theorem wpList_append_grow {P : Program} {t e size bytes : Nat} (T : STy P t e size bytes) {ops : Array Oper} {rest : List Oper} {o : Oper} {a : Act} {w : World} {Q : Exit → Act → World → Prop} (hw : Region.wanted o (yielded ops a.tmps) = true) (s y : Operand)
    (hop : o.op = .call { callee := .builtin .append, args := #[s, y], argTypes := #[t, t] }) (b off n c b2 off2 m c2 : Nat) (hs : a.eval s = .slice (some ⟨b, off, none⟩) n c) (hy : a.eval y = .slice (some ⟨b2, off2, none⟩) m c2)
    (es ns : List (List Value)) (hn : n = es.length) (hm : m = ns.length) (hx : Src w size (.slice (some ⟨b, off, none⟩) n c) es) (hx2 : Src w size (.slice (some ⟨b2, off2, none⟩) m c2) ns)
    (hg : c < n + m) (hb : (n + m) * bytes ≤ 140737488355328) (hmx : n + m ≤ maxLen)
    (h : ∀ w' k, Own w' e size (.slice (some ⟨w.heap.size, 0, none⟩) (n + m) (n + m + k)) (es ++ ns) → Mod [] w w' → wpList P ops Q rest (a.put o.dst (.slice (some ⟨w.heap.size, 0, none⟩) (n + m) (n + m + k))) w') : wpList P ops Q (o :: rest) a w :=
  wpList_wanted hw fun _ hK => by
    obtain ⟨i, z, hi, hz, hsz, hby, hzs⟩ := T.info
    subst hsz hby
    have hfl := flatten_length hx.1
    have hfl2 := flatten_length hx2.1
    have r1 : ∀ j u, es.flatten[j]? = some u → w.cell? ((⟨b, off, none⟩ : Addr).add j) = some u := by
      intro j u hu
      rcases hx.2 with ⟨c', h1, _⟩ | ⟨b', off', c', h1, hr⟩
      · cases h1
      · cases h1; rw [addr_add]; exact hr j u hu
    have r2 : ∀ j u, ns.flatten[j]? = some u → w.cell? ((⟨b2, off2, none⟩ : Addr).add j) = some u := by
      intro j u hu
      rcases hx2.2 with ⟨c', h1, _⟩ | ⟨b', off', c', h1, hr⟩
      · cases h1
      · cases h1; rw [addr_add]; exact hr j u hu
    have hsmall : n + m ≤ 9223372036854775807 := by simp only [maxLen] at hmx; omega
    have hrun := run_append_grow (P := P) w t o.type e i z T.u hi hz ⟨b, off, none⟩ n c es.flatten (by rw [hn]; exact hfl) r1 ⟨b2, off2, none⟩ m c2 ns.flatten (by rw [hm]; exact hfl2) r2 hg (by omega) (growslice_fits (by omega) hb)
    obtain ⟨k, hk⟩ : ∃ k, grownCap w (n + m) c e = n + m + k := ⟨grownCap w (n + m) c e - (n + m), by have := grownCap_ge w (n + m) c e; omega⟩
    have hcm := grownCap_le_maxLen w (n + m) c e hmx
    rw [hk] at hrun hcm
    have hpos := T.pos
    unfold Oper.wp execOp
    simp only [hop, resolve, invoke, builtin, Sem.run_bind, Sem.run_pure, Result.andThen_ok, List.map_toArray, List.map_cons, List.map_nil, hs, hy, hrun]
    refine hK _ _ (h _ k ?_ (((Mod.refl [] w).drew).alloc _))
    have e1 := heap_alloc_at w.drew (.cells (es.flatten.toArray ++ ns.flatten.toArray ++ Builtin.zeroCells z.cells (n + m + k - (n + m))) e)
    have ha : ∀ r ∈ es ++ ns, r.length = i.size := by
      intro r hr
      rcases List.mem_append.1 hr with hr | hr
      · exact hx.1 r hr
      · exact hx2.1 r hr
    have hfa := flatten_length ha
    have hl : (es ++ ns).length = n + m := by rw [List.length_append, hn, hm]
    refine ⟨ha, hfa, .inr ⟨w.heap.size, n + m + k, _, by rw [hl], Nat.zero_le _, e1, by rw [hl]; omega, hcm, ?_, ?_⟩⟩
    · have hz1 : (Builtin.zeroCells z.cells (n + m + k - (n + m))).size = k * i.size := by rw [size_zeroCells, hzs]; congr 1; omega
      have hfe : (es ++ ns).flatten.length = es.flatten.length + ns.flatten.length := by rw [List.flatten_append, List.length_append]
      rw [Array.size_append, Array.size_append, hz1, List.size_toArray, List.size_toArray, ← hfe, hfa, hl, ← Nat.add_mul]
    · rw [← hfa, Array.toList_append, Array.toList_append, ← List.flatten_append]
      exact List.take_left

end Go.Proofs.Ytknkifanpppglaa

/- Walks: slices.Insert of one reference. -/
namespace Go.Proofs.Ytknkifanpppglaa
open Go.RowKit

theorem zrow_ref : ((Try.prog.info? 113).bind (·.zero)).map (·.cells.toList) = some [.int .i64 0, .int .i64 0] := by kernel_rfl

/-- what the two copies leave -/
theorem insert_rows {α : Type} (es : List α) (i k : Nat) (e z : α) (hi : i < es.length) :
    (splice (splice (es.take i ++ List.replicate (es.length + 1 - i + k) z) i [e]) (i + 1) (es.drop i)).take (es.length + 1) = es.take i ++ e :: es.drop i := by
  have h1 : (es.take i).length = i := by rw [List.length_take]; omega
  have h2 : splice (es.take i ++ List.replicate (es.length + 1 - i + k) z) i [e] = es.take i ++ e :: List.replicate (es.length - i + k) z := by
    unfold splice
    rw [List.take_left' h1, List.drop_append, List.drop_of_length_le (by simp; omega), h1, List.nil_append, List.drop_replicate]
    simp only [List.length_singleton, List.singleton_append]
    congr 3
    omega
  rw [h2]
  have h3 : splice (es.take i ++ e :: List.replicate (es.length - i + k) z) (i + 1) (es.drop i) = (es.take i ++ e :: es.drop i) ++ List.replicate k z := by
    unfold splice
    have e1 : (es.take i ++ e :: List.replicate (es.length - i + k) z).take (i + 1) = es.take i ++ [e] := by
      rw [List.take_append, List.take_of_length_le (by omega), h1, show i + 1 - i = 1 by omega]; rfl
    have e2 : (es.take i ++ e :: List.replicate (es.length - i + k) z).drop (i + 1 + (es.drop i).length) = List.replicate k z := by
      rw [List.drop_append, List.drop_of_length_le (by omega), h1, List.nil_append, List.length_drop, show i + 1 + (es.length - i) - i = (es.length - i) + 1 by omega, List.drop_succ_cons, List.drop_replicate]
      congr 1; omega
    rw [e1, e2]
    simp
  rw [h3]
  refine List.take_left' ?_
  simp only [List.length_append, List.length_cons, List.length_drop, h1]
  omega

theorem World.lt_of_row {w : World} {b off : Nat} {e : List Value} {n : Nat} (h : Row w b off e) (hl : e.length = n + 1 := by assumption) : b < w.heap.size :=
  Go.block_lt_of_cell (h 0 e[0] (List.getElem?_eq_getElem (by omega)))

def InsPost (E sz : Nat) (es' : List (List Value)) (w : World) (e : Ending) (w' : World) : Prop :=
  ∃ v', e = .returned v' ∧ Own w' E sz v' es' ∧ Mod [] w w' ∧ FreshN w.heap.size v'

set_option maxRecDepth 100000 in
set_option maxHeartbeats 2000000 in
theorem insertR_any (w : World) (b L i vb : Nat) (es : List (List Value)) (e : List Value) (hL : L = es.length) (hi : i ≤ L) (hmx : L ≤ 100000) (hs : Src w 2 (.slice (some ⟨b, 0, none⟩) L L) es) (he : e.length = 2) (hv : Row w vb 0 e)
    (h1 : ∀ r ∈ es, ∀ u ∈ r, u.oneCell' = true) (h2 : ∀ u ∈ e, u.oneCell' = true) :
    Calls Try.prog 126 #[.slice (some ⟨b, 0, none⟩) L L, .int .i64 i, .slice (some ⟨vb, 0, none⟩) 1 1] w (InsPost 113 2 (es.take i ++ e :: es.drop i) w) := by
  have HL := Lib.hid hL
  have HS := Lib.hid hs
  have HE := Lib.hid he
  have HV := Lib.hid hv
  have HO1 := Lib.hid h1
  have HO2 := Lib.hid h2
  clear hL hs he hv h1 h2
  by_cases hiL : i = L
  · subst hiL
    have hb1 : ((i : Int) == i) = true := by simp
    go_enter Try.func126, Try.ntmps126
    go_wp2_with (at_builtin; refine wpList_append_grow sty_ref rfl (.tmp 23) (.tmp 24) rfl b 0 i i vb 0 1 1 rfl rfl es [e] HL.out rfl HS.out (Src.one HE.out HV.out) (by omega) (by omega) (by simp [maxLen]; omega) ?_; intro w1 k hown hm)
    go_ret
    refine ⟨_, rfl, ?_, hm, ?_⟩
    · rw [HL.out, List.take_of_length_le (Nat.le_refl _), List.drop_of_length_le (Nat.le_refl _), ← HL.out]; exact hown
    · intro g hg; simp [Value.ownBlock] at hg; omega
  · have hlt : i < L := by omega
    have hbl : b < w.heap.size := HS.out.lt (by omega)
    have hb1 : ((i : Int) == L) = false := by simp; omega
    have hcast : ((L : Int) + 1 - i) = ((L + 1 - i : Nat) : Int) := by omega
    have HC := Lib.hid hcast
    clear hcast
    go_enter Try.func126, Try.ntmps126
    go_wp2_with (first | (refine wpList_append_zeros (zrow := [.int .i64 0, .int .i64 0]) sty_ref Try.underlying3 zrow_ref rfl (.tmp 34) (.tmp 39) rfl (.slice (some ⟨b, 0, none⟩) i L) (some ⟨b, 0, none⟩) i L (L + 1 - i) rfl rfl (int_eq HC.out) (es.take i) (by rw [List.length_take, ← HL.out]; omega) (HS.out.takeS i L (by omega)) (L + 1) (by omega) (by omega) (by omega) (by omega) (by simp [maxLen]; omega) ?_; intro w1 k hblk hm hmax; have HB := Lib.hid hblk; clear hblk; have hvb := World.lt_of_row HV.out HE.out) | (refine wpList_copy_blk sty_ref rfl (.tmp 43) (.tmp 44) rfl w.heap.size i _ _ (.slice (some ⟨vb, 0, none⟩) 1 1) rfl rfl _ [e] HB.out ((Src.one HE.out HV.out).mod hm (by simp)) (by simpa using HO2.out) (Nat.le_trans (Nat.add_le_add_left (Nat.min_le_left _ _) _) (by have := HL.out; simp; omega)) ?_; intro w2 hblk2 hm2; have HB2 := Lib.hid hblk2; clear hblk2))
    have hw5 : ¬ L = i := fun e => hiL e.symm
    have hw6 : ¬ L + 1 + k = i + 1 := by omega
    have hw1 : IntKind.i64.wrap ((i : Int) + 1) = (i : Int) + 1 := IntWalk.i64_in _ (by omega)
    have hw2 : (0 : Int) ≤ (i : Int) + 1 := by omega
    have hw3 : ((i : Int) + 1).toNat = i + 1 := by omega
    have hw4 : (i : Int) + 1 ≤ ((L : Int) + 1) := by omega
    go_still_tail 8, (by kernel_rfl)
    have hlen : (splice (es.take i ++ List.replicate (L + 1 - i + k) [Value.int .i64 0, Value.int .i64 0]) i (List.take (Nat.min [e].length (L + 1 - i)) [e])).length = L + 1 + k := by
      have := HL.out
      have e1 : Nat.min [e].length (L + 1 - i) = 1 := Nat.min_eq_left (by simp; omega)
      rw [e1, length_splice _ _ _ (by simp; omega)]; simp; omega
    go_wp2_with (refine wpList_copy_blk sty_ref rfl (.tmp 50) (.tmp 53) rfl w.heap.size (i + 1) _ _ (.slice (some ⟨b, i * 2, none⟩) (L - i) (L - i)) rfl rfl _ (es.drop i) (HB2.out.mod ((Mod.refl [] w2).drew) (by simp)) ((((by simpa using HS.out.dropS i (L - i) (by omega) : Src w 2 (.slice (some ⟨b, i * 2, none⟩) (L - i) (L - i)) (es.drop i)).mod hm (by simp)).mod hm2 (by simp [Value.ownBlock]; omega)).mod ((Mod.refl [] w2).drew) (by simp)) (fun r hr => HO1.out r (List.mem_of_mem_drop hr)) (Nat.le_trans (Nat.add_le_add_left (Nat.min_le_right _ _) _) (by rw [hlen]; omega)) ?_; intro w3 hblk3 hm3; have HB3 := Lib.hid hblk3; clear hblk3)
    go_ret
    have hb3 := HB3.out
    have e1 : Nat.min [e].length (L + 1 - i) = 1 := Nat.min_eq_left (by simp; omega)
    have e2 : Nat.min (es.drop i).length (L - i) = (es.drop i).length := Nat.min_eq_left (by rw [List.length_drop, ← HL.out]; omega)
    rw [e1, e2, List.take_of_length_le (Nat.le_refl _), show List.take 1 [e] = [e] from rfl] at hb3
    have hL := HL.out
    subst hL
    have hlen2 : (splice (splice (es.take i ++ List.replicate (es.length + 1 - i + k) [Value.int .i64 0, Value.int .i64 0]) i [e]) (i + 1) (es.drop i)).length = es.length + 1 + k := by
      have e3 : (splice (es.take i ++ List.replicate (es.length + 1 - i + k) [Value.int .i64 0, Value.int .i64 0]) i [e]).length = es.length + 1 + k := by
        rw [length_splice _ _ _ (by simp; omega)]; simp; omega
      rw [length_splice _ _ _ (by rw [e3]; simp; omega), e3]
    have hown := hb3.own (es.length + 1) (by omega) (by omega) _ (insert_rows es i k e _ hlt)
    rw [hlen2] at hown
    have hmm : Mod [] w w3 := ((hm.trans hm2 (by simp)).drew).trans hm3 (by simp)
    exact ⟨_, rfl, hown, hmm, fun g hg => by simp [Value.ownBlock] at hg; omega⟩

end Go.Proofs.Ytknkifanpppglaa

/- Walks: slices.Grow of nil, slices.Concat of two, with. -/
namespace Go.Proofs.Ytknkifanpppglaa
open Go.RowKit

set_option maxRecDepth 100000 in
set_option maxHeartbeats 1000000 in
theorem growR_any (w : World) (n : Nat) (hn : n ≤ 100000) :
    Calls Try.prog 141 #[.slice none 0 0, .int .i64 n] w (InsPost 113 2 [] w) := by
  by_cases h0 : n = 0
  · subst h0
    go_enter Try.func141, Try.ntmps141
    go_wp2
    go_ret
    exact ⟨_, rfl, Own.nil _ _ _, Mod.refl _ _, FreshN.nil _⟩
  · go_enter Try.func141, Try.ntmps141
    go_wp2_with (refine wpList_append_zeros (zrow := [.int .i64 0, .int .i64 0]) sty_ref Try.underlying3 zrow_ref rfl (.tmp 20) (.tmp 21) rfl (.slice none 0 0) none 0 0 n rfl rfl rfl [] rfl (Src.nil _ _ _) n (by omega) (by omega) (by omega) (by omega) (by simp [maxLen]; omega) ?_; intro w1 k hblk hm hmax; have HB := Lib.hid hblk; clear hblk)
    go_ret
    have hb := HB.out
    have hl : (([] : List (List Value)) ++ List.replicate (n + k) [Value.int .i64 0, Value.int .i64 0]).length = n + k := by simp
    have hown := hb.own 0 (Nat.zero_le _) (by rw [hl]; exact hmax) [] rfl
    rw [hl] at hown
    exact ⟨_, rfl, hown, hm, fun g hg => by simp [Value.ownBlock] at hg; omega⟩

set_option maxRecDepth 100000 in
set_option maxHeartbeats 2000000 in
theorem concatR_any (w : World) (sb : Nat) (a1 a2 : Option Addr) (n1 c1 n2 c2 : Nat) (es1 es2 : List (List Value)) (h1 : w.cell? ⟨sb, 0, none⟩ = some (.slice a1 n1 c1)) (h2 : w.cell? ⟨sb, 1, none⟩ = some (.slice a2 n2 c2))
    (s1 : Src w 2 (.slice a1 n1 c1) es1) (s2 : Src w 2 (.slice a2 n2 c2) es2) (l1 : n1 = es1.length) (l2 : n2 = es2.length) (hb1 : n1 ≤ 10000) (hb2 : n2 ≤ 10000)
    (o1 : ∀ r ∈ es1, ∀ u ∈ r, u.oneCell' = true) (o2 : ∀ r ∈ es2, ∀ u ∈ r, u.oneCell' = true) :
    Calls Try.prog 127 #[.slice (some ⟨sb, 0, none⟩) 2 2] w (InsPost 113 2 (es1 ++ es2) w) := by
  have S1 := Lib.hid s1
  have S2 := Lib.hid s2
  have L1 := Lib.hid l1
  have L2 := Lib.hid l2
  have O1 := Lib.hid o1
  have O2 := Lib.hid o2
  have hlt := Go.block_lt_of_cell h1
  clear s1 s2 l1 l2 o1 o2
  go_enter Try.func127, Try.ntmps127
  go_wp2
  refine wp_loop_rounds 3 ?_
  rw [rounds_succ]
  go_wp2
  rw [rounds_succ]
  go_wp2
  rw [rounds_succ]
  go_wp2_with fail
  have hc : ((n1 : Int) + n2) = ((n1 + n2 : Nat) : Int) := by omega
  rw [hc]
  refine (growR_any w (n1 + n2) (by omega)).mono ?_
  rintro e w1 ⟨g, rfl, hg, hm1, hf1⟩
  have d1 := hm1.cell h1 (by simp)
  have d2 := hm1.cell h2 (by simp)
  have HG := Lib.hid hg
  clear hg hc
  have hsz : w.heap.size ≤ w1.heap.size := hm1.size
  go_wp2
  refine wp_loop_rounds 3 ?_
  rw [rounds_succ]
  go_wp2_with (at_builtin; refine wpList_append_Own sty_ref rfl (.tmp 31) (.tmp 32) rfl g (.slice a1 n1 c1) rfl rfl [] es1 HG.out (S1.out.mod hm1 (by simp)) O1.out (by have := L1.out; simp [maxLen]; omega) (by have := L1.out; simp; omega) ?_; intro g2 w2 hg2 hm2 hf2)
  have hm12 : Mod [] w w2 := hm1.fresh hf1 hm2
  have d2' := hm2.cell d2 (hf1.notin hlt)
  have hf2' : FreshN w.heap.size g2 := FreshN.or hf1 hf2 hsz
  have HG2 := Lib.hid hg2
  clear hg2
  rw [rounds_succ]
  go_wp2_with (at_builtin; refine wpList_append_Own sty_ref rfl (.tmp 31) (.tmp 32) rfl g2 (.slice a2 n2 c2) rfl rfl ([] ++ es1) es2 HG2.out (S2.out.mod hm12 (by simp)) O2.out (by have := L1.out; have := L2.out; simp [maxLen]; omega) (by have := L1.out; have := L2.out; simp; omega) ?_; intro g3 w3 hg3 hm3 hf3)
  have hm13 : Mod [] w w3 := hm12.fresh hf2' hm3
  have hf3' : FreshN w.heap.size g3 := FreshN.or hf2' hf3 hm12.size
  rw [List.nil_append] at hg3
  have HG3 := Lib.hid hg3
  clear hg3
  rw [rounds_succ]
  go_wp2
  go_ret
  exact ⟨g3, rfl, HG3.out, hm13, hf3'⟩

end Go.Proofs.Ytknkifanpppglaa

/- Walks: with. -/
namespace Go.Proofs.Ytknkifanpppglaa
open Go.RowKit

theorem filter_cut {r : List (Int × Int)} {t : Int} {k : Nat} (hr : Rising r) (hc : CutR r t k) :
    r.filter (fun x => decide (x.1 < t)) = r.take k ∧ r.filter (fun x => decide (t < x.1)) = (if foundR r t k then r.drop (k + 1) else r.drop k) := by
  obtain ⟨h1, h2, h3⟩ := hc
  have hsplit : r = r.take k ++ r.drop k := (List.take_append_drop k r).symm
  have ht : ∀ x ∈ r.take k, x.1 < t := by
    intro x hx
    obtain ⟨j, hj, he⟩ := List.getElem_of_mem hx
    rw [List.length_take] at hj
    have : r[j]? = some x := by rw [← he, List.getElem_take]; exact List.getElem?_eq_getElem (by omega)
    exact h2 j x (by omega) this
  have hd : ∀ x ∈ r.drop k, t ≤ x.1 := by
    intro x hx
    obtain ⟨j, hj, he⟩ := List.getElem_of_mem hx
    rw [List.length_drop] at hj
    have : r[k + j]? = some x := by rw [← he, List.getElem_drop]; exact List.getElem?_eq_getElem (by omega)
    exact h3 (k + j) x (by omega) this
  have hd1 : ∀ x ∈ r.drop (k + 1), t < x.1 := by
    intro x hx
    obtain ⟨j, hj, he⟩ := List.getElem_of_mem hx
    rw [List.length_drop] at hj
    have e1 : r[k + 1 + j]? = some x := by rw [← he, List.getElem_drop]; exact List.getElem?_eq_getElem (by omega)
    have e2 := List.getElem?_eq_some_iff.1 e1
    have hk : k < r.length := by omega
    have e3 := h3 k r[k] (Nat.le_refl _) (List.getElem?_eq_getElem hk)
    have e4 := List.pairwise_iff_getElem.1 hr k (k + 1 + j) hk e2.1 (by omega)
    rw [e2.2] at e4
    omega
  constructor
  · conv => lhs; rw [hsplit]
    rw [List.filter_append, List.filter_eq_self.2 (fun x hx => by simpa using ht x hx), List.filter_eq_nil_iff.2 (fun x hx => by have := hd x hx; simp; omega), List.append_nil]
  · conv => lhs; rw [hsplit]
    rw [List.filter_append, List.filter_eq_nil_iff.2 (fun x hx => by have := ht x hx; simp; omega), List.nil_append]
    cases hf : foundR r t k with
    | true =>
      rw [if_pos rfl]
      unfold foundR at hf
      cases hk : r[k]? with
      | none => rw [hk] at hf; simp at hf
      | some p =>
        rw [hk] at hf; simp at hf
        have e := List.getElem?_eq_some_iff.1 hk
        rw [List.drop_eq_getElem_cons e.1, e.2, List.filter_cons, if_neg (by simp; omega), List.filter_eq_self.2 (fun x hx => by simpa using hd1 x hx)]
    | false =>
      rw [if_neg (by simp)]
      rw [List.filter_eq_self]
      intro x hx
      have h4 := hd x hx
      have h5 := (held_of_cut hr ⟨h1, h2, h3⟩).2 hf
      have h6 := h5.2 x (List.mem_of_mem_drop hx)
      simp; omega

theorem withL_ins {r : List (Int × Int)} {t n : Int} {k : Nat} (hr : Rising r) (hc : CutR r t k) (hf : foundR r t k = false) (hn : 0 < n) : withL r t n = r.take k ++ (t, n) :: r.drop k := by
  unfold withL
  rw [(filter_cut hr hc).1, (filter_cut hr hc).2, hf]; simp [hn]
theorem withL_del {r : List (Int × Int)} {t : Int} {k : Nat} (hr : Rising r) (hc : CutR r t k) (hf : foundR r t k = true) : withL r t 0 = r.take k ++ r.drop (k + 1) := by
  unfold withL
  rw [(filter_cut hr hc).1, (filter_cut hr hc).2, hf]; simp
theorem withL_set {r : List (Int × Int)} {t n : Int} {k : Nat} (hr : Rising r) (hc : CutR r t k) (hf : foundR r t k = true) (hn : 0 < n) : withL r t n = r.set k (t, n) := by
  have hk : k < r.length := by
    unfold foundR at hf
    cases hk : r[k]? with
    | none => rw [hk] at hf; simp at hf
    | some p => exact (List.getElem?_eq_some_iff.1 hk).1
  unfold withL
  rw [(filter_cut hr hc).1, (filter_cut hr hc).2, hf, List.set_eq_take_append_cons_drop, if_pos hk]; simp [hn]

theorem Src.takeS' {w : World} {sz b off n c : Nat} {es : List (List Value)} (h : Src w sz (.slice (some ⟨b, off, none⟩) n c) es) (_ : es.length = n) : Src w sz (.slice (some ⟨b, off, none⟩) n n) es := by
  refine ⟨h.1, ?_⟩
  rcases h.2 with ⟨c0, h1, _⟩ | ⟨b', off', c0, h1, hr⟩
  · cases h1
  · cases h1; exact .inr ⟨b, off, es.length, rfl, hr⟩

theorem Refs.oneRows {r : List (Int × Int)} : ∀ q ∈ r.map refCells, ∀ u ∈ q, u.oneCell' = true := oneCell_refs r

set_option maxRecDepth 100000 in
set_option maxHeartbeats 2000000 in
theorem with_any (w : World) (rv : Value) (r : List (Int × Int)) (t n : Int) (h : Refs w rv r) (hr : Rising r) (hne : r ≠ []) (hl : r.length ≤ 5000) (hn : 0 ≤ n) (h0 : n = 0 → ∃ x ∈ r, x.1 = t) :
    Calls Try.prog 100 #[rv, .int .i64 t, .int .i64 n] w (RefsPost (withL r t n) w) := by
  rcases h.shape with ⟨rfl, rfl⟩ | ⟨b, cap, rfl, hb, hc, hm, hrow⟩
  · exact absurd rfl hne
  · have H := Lib.hid h
    have HR := Lib.hid hr
    have HN := Lib.hid hne
    have H0 := Lib.hid h0
    have hlp : 0 < r.length := List.length_pos_iff.2 hne
    have ml : (r.map refCells).length = r.length := by simp
    have ML := Lib.hid ml
    clear h hr hne h0 hrow ml
    go_enter Try.func100, Try.ntmps100
    go_wp2_with fail
    refine (place_any w _ r t H.out HR.out (by omega)).mono ?_
    rintro e w1 ⟨k, hcut, rfl, hm1⟩
    have hk := hcut.1
    have HC := Lib.hid hcut
    clear hcut
    have hr1 := H.out.mod0 hm1
    have HR1 := Lib.hid hr1
    clear hr1
    cases hf : foundR r t k with
    | false =>
      have hnp : 0 < n := by
        rcases Int.lt_or_eq_of_le hn with h | h
        · exact h
        · obtain ⟨x, hx, he⟩ := H0.out h.symm
          exact absurd he (((held_of_cut HR.out HC.out).2 hf).2 x hx)
      have hw := withL_ins HR.out HC.out hf hnp
      have HW := Lib.hid hw
      clear hf hw
      go_wp2_with fail
      refine (insertR_any _ b r.length k w1.heap.size (r.map refCells) (refCells (t, n)) ML.out.symm hk (by omega) ?_ rfl ?_ (oneCell_refs r) ?_).mono ?_
      · exact (Src.takeS' HR1.out.src ML.out).mod ((Mod.refl [] _).alloc _) (by simp)
      · exact Row.of_heap (cs := refCells (t, n)) (heap_alloc_at w1 _)
      · intro u hu; simp [refCells] at hu; rcases hu with rfl | rfl <;> rfl
      · rintro e w2 ⟨v', rfl, hown, hm2, hfr⟩
        have HO := Lib.hid hown
        clear hown
        go_wp2
        go_ret
        refine ⟨v', rfl, ?_, (hm1.alloc _).trans_nil hm2, fun g hg => ?_⟩
        · rw [HW.out]
          simpa [Refs, List.map_take, List.map_drop] using HO.out
        · have h1 := hfr g hg
          have h2 := hm1.size
          simp at h1; omega
    | true =>
      have hkl : k < r.length := by
        unfold foundR at hf
        cases hk : r[k]? with
        | none => rw [hk] at hf; simp at hf
        | some p => exact (List.getElem?_eq_some_iff.1 hk).1
      by_cases hnz : n = 0
      · subst hnz
        have hw := withL_del HR.out HC.out hf
        have HW := Lib.hid hw
        have hw1 : IntKind.i64.wrap ((k : Int) + 1) = (k : Int) + 1 := IntWalk.i64_in _ (by omega)
        have hw2 : (0 : Int) ≤ (k : Int) + 1 := by omega
        have hw3 : ((k : Int) + 1).toNat = k + 1 := by omega
        have hw4 : (k : Int) + 1 ≤ (r.length : Int) := by omega
        have hz : ((0 : Int) == 0) = true := rfl
        have hw5 : (k : Int) ≤ (cap : Int) := by omega
        have hw6 : (0 : Int) ≤ (k : Int) := by omega
        have hw7 : ¬ cap = 0 := by omega
        have hw8 : k ≤ cap := by omega
        have hw9 : k + 1 ≤ r.length := by omega
        clear hf hw
        by_cases hcap : cap = k + 1
        · have hcap1 : ¬ cap = k := by omega
          have hrl : r.length - cap = 0 := by omega
          have hrl2 : r.length ≤ k + 1 := by omega
          have HRL := Lib.hid hrl
          have HRL2 := Lib.hid hrl2
          have HCp := Lib.hid hcap
          have hk1 : k + 1 = cap := hcap.symm
          clear hrl hrl2 hcap
          go_wp2
          go_still_tail 7, (by kernel_rfl)
          go_wp2_with fail
          have hmd : Mod [] w1 ((w1.alloc (.cells #[.slice (some ⟨b, 0, none⟩) k cap, .slice (some ⟨b, 0, none⟩) 0 0] 43)).drew) := ((Mod.refl [] w1).alloc _).drew
          refine (concatR_any _ w1.heap.size (some ⟨b, 0, none⟩) (some ⟨b, 0, none⟩) k cap 0 0 ((r.map refCells).take k) [] ?_ ?_ ((HR1.out.src.takeS k cap (by omega)).mod hmd (by simp)) (Src.empty _ _ _ _ _) ?_ ?_ (by omega) (by omega) (fun q hq => oneCell_refs r q (List.mem_of_mem_take hq)) (by simp)).mono ?_
          · rw [World.cell?_drew, cell_of_row _ w1.heap.size 0 _ _ _ (heap_alloc_at w1 _)]; rfl
          · rw [World.cell?_drew, cell_of_row _ w1.heap.size 1 _ _ _ (heap_alloc_at w1 _)]; rfl
          · rw [List.length_take, ML.out]; omega
          · rfl
          · rintro e w2 ⟨v', rfl, hown, hm2, hfr⟩
            have HO := Lib.hid hown
            clear hown
            go_wp2
            go_ret
            refine ⟨v', rfl, ?_, (hm1.trans_nil hmd).trans_nil hm2, fun g hg => ?_⟩
            · rw [HW.out]
              simpa [Refs, List.map_take, List.map_drop, List.drop_of_length_le HRL2.out] using HO.out
            · have h1 := hfr g hg
              have h2 := hm1.size
              simp at h1; omega
        · have hcap1 : ¬ cap = k := by omega
          go_wp2
          go_still_tail 7, (by kernel_rfl)
          go_wp2_with fail
          have hmd : Mod [] w1 ((w1.alloc (.cells #[.slice (some ⟨b, 0, none⟩) k cap, .slice (some ⟨b, (k + 1) * 2, none⟩) (r.length - (k + 1)) (cap - (k + 1))] 43)).drew) := ((Mod.refl [] w1).alloc _).drew
          refine (concatR_any _ w1.heap.size (some ⟨b, 0, none⟩) (some ⟨b, (k + 1) * 2, none⟩) k cap (r.length - (k + 1)) (cap - (k + 1)) ((r.map refCells).take k) ((r.map refCells).drop (k + 1)) ?_ ?_ ((HR1.out.src.takeS k cap (by omega)).mod hmd (by simp)) ((by simpa using HR1.out.src.dropS (k + 1) (cap - (k + 1)) (by omega) : Src w1 2 (.slice (some ⟨b, (k + 1) * 2, none⟩) (r.length - (k + 1)) (cap - (k + 1))) ((r.map refCells).drop (k + 1))).mod hmd (by simp)) ?_ ?_ (by omega) (by omega) (fun q hq => oneCell_refs r q (List.mem_of_mem_take hq)) (fun q hq => oneCell_refs r q (List.mem_of_mem_drop hq))).mono ?_
          · rw [World.cell?_drew, cell_of_row _ w1.heap.size 0 _ _ _ (heap_alloc_at w1 _)]; rfl
          · rw [World.cell?_drew, cell_of_row _ w1.heap.size 1 _ _ _ (heap_alloc_at w1 _)]; rfl
          · rw [List.length_take, ML.out]; omega
          · rw [List.length_drop, ML.out]
          · rintro e w2 ⟨v', rfl, hown, hm2, hfr⟩
            have HO := Lib.hid hown
            clear hown
            go_wp2
            go_ret
            refine ⟨v', rfl, ?_, (hm1.trans_nil hmd).trans_nil hm2, fun g hg => ?_⟩
            · rw [HW.out]
              simpa [Refs, List.map_take, List.map_drop] using HO.out
            · have h1 := hfr g hg
              have h2 := hm1.size
              simp at h1; omega
      · have hnp : 0 < n := by omega
        have hz : (n == 0) = false := by simpa using hnz
        have hw := withL_set HR.out HC.out hf hnp
        have HW := Lib.hid hw
        have HFd := Lib.hid hf
        clear hf hw hnz
        go_wp2_with fail
        refine (cloneRefs_any w1 _ r HR1.out (by omega)).mono ?_
        rintro e w2 ⟨rv', rfl, hr2, hm2, hfr⟩
        rcases hr2.shape with ⟨rfl, h3⟩ | ⟨b2, cap2, rfl, hb2, hc2, _, _⟩
        · exact absurd h3 HN.out
        · obtain ⟨cur, hcur, hn2, hcap2, hlen2, _⟩ := Own.block hr2
          have hkc : k * 2 + 2 ≤ cur.length := by rw [hlen2]; omega
          have H2 := Lib.hid hr2
          have HCur := Lib.hid hcur
          clear hr2 hcur hn2 hlen2
          go_wp2_with (refine wpList_store1 rfl 3 (.tmp 49) (.tmp 47) rfl info3 b2 (k * 2 + 1) 113 cur (.int .i64 n) rfl rfl HCur.out rfl (by omega) ?_; intro w3 hh3 hm3; have HH3 := Lib.hid hh3; clear hh3)
          go_ret
          obtain ⟨p, hp⟩ : ∃ p, r[k]? = some p := ⟨_, List.getElem?_eq_getElem hkl⟩
          have hke : (r.map refCells)[k]? = some (refCells p) := by simp [hp]
          have ho := Own.write H2.out HCur.out (k := k) (j := 1) (cs := [.int .i64 n]) hke (by simp) (by rw [splice_one _ _ _ (by omega)]; exact HH3.out)
          have hpt : p.1 = t := by
            have h5 := (held_of_cut HR.out HC.out).1
            obtain ⟨m, h6, _⟩ := h5 HFd.out
            rw [hp] at h6; cases h6; rfl
          have e1 : splice (refCells p) 1 [Value.int .i64 n] = refCells (t, n) := by rw [← hpt]; rfl
          rw [e1, ← List.map_set] at ho
          refine ⟨.slice (some ⟨b2, 0, none⟩) r.length cap2, rfl, ?_, (hm1.trans_nil hm2).trans hm3 ?_, fun g hg => ?_⟩
          · rw [HW.out]; exact ho
          · intro x hx; simp at hx; subst hx; right
            have h1 := hfr x rfl
            have h2 := hm1.size
            omega
          · have h1 := hfr g hg
            have h2 := hm1.size
            omega

end Go.Proofs.Ytknkifanpppglaa

/- Walks: change, Refer. -/
namespace Go.Proofs.Ytknkifanpppglaa
open Go.RowKit

def ChangePost (lv : Value) (l : List Ck) (id t n : Int) (w : World) (e : Ending) (w' : World) : Prop :=
  Mod [] w w' ∧ ((idxOf l id = none ∧ e = .returned (.tuple #[.pointer none, .int .i64 12])) ∨ ((∃ k, idxOf l id = some k) ∧ argsBad t n = true ∧ e = .returned (.tuple #[.pointer none, .int .i64 1])) ∨
    ∃ k b m cap, idxOf l id = some k ∧ argsBad t n = false ∧ lv = .slice (some ⟨b, 0, none⟩) m cap ∧ e = .returned (.tuple #[.pointer (some ⟨b, k * 23, none⟩), .int .i64 0]))

set_option maxHeartbeats 1000000 in
theorem change_any (w : World) (tb mb : Nat) (lv : Value) (l : List Ck) (id t n : Int) (h : Tab w tb mb lv l) :
    Calls Try.prog 98 #[.pointer (some ⟨tb, 0, none⟩), .int .i64 id, .int .i64 t, .int .i64 n] w (ChangePost lv l id t n w) := by
  have HT := Lib.hid h
  clear h
  go_enter Try.func98, Try.ntmps98
  go_wp2_with fail
  refine (find_any _ tb mb lv l id HT.out).mono ?_
  rintro e w1 ⟨hm, hf⟩
  rcases hf with ⟨hi, rfl⟩ | ⟨k, b, m, cap, hi, rfl, rfl⟩
  · have HI := Lib.hid hi
    clear hi
    go_wp2
    go_ret2
    exact ⟨hm, .inl ⟨HI.out, rfl⟩⟩
  · have HI := Lib.hid hi
    clear hi
    cases ht : tenB t with
    | false =>
      have hbad : argsBad t n = true := by simp [argsBad, ht]
      have HB := Lib.hid hbad
      have H2 := Lib.hid ht
      clear hbad ht
      go_wp2_with (go_at_call 94; refine (isTenant_any t _).mono ?_; rintro e w2 ⟨rfl, rfl⟩; rw [H2.out])
      go_ret2
      exact ⟨hm, .inr (.inl ⟨⟨k, HI.out⟩, HB.out, rfl⟩)⟩
    | true =>
      have H2 := Lib.hid ht
      by_cases h1 : n < 1
      · have hbad : argsBad t n = true := by simp [argsBad, h1]
        have HB := Lib.hid hbad
        clear hbad ht
        go_wp2_with (go_at_call 94; refine (isTenant_any t _).mono ?_; rintro e w2 ⟨rfl, rfl⟩; rw [H2.out])
        go_ret2
        exact ⟨hm, .inr (.inl ⟨⟨k, HI.out⟩, HB.out, rfl⟩)⟩
      · by_cases h2 : 2147483647 < n
        · have hbad : argsBad t n = true := by simp [argsBad, most, h2]
          have HB := Lib.hid hbad
          clear hbad ht
          go_wp2_with (go_at_call 94; refine (isTenant_any t _).mono ?_; rintro e w2 ⟨rfl, rfl⟩; rw [H2.out])
          go_ret2
          exact ⟨hm, .inr (.inl ⟨⟨k, HI.out⟩, HB.out, rfl⟩)⟩
        · have hbad : argsBad t n = false := by
            unfold argsBad most
            rw [ht, decide_eq_false h1, decide_eq_false h2]
            rfl
          have HB := Lib.hid hbad
          clear hbad ht
          go_wp2_with (go_at_call 94; refine (isTenant_any t _).mono ?_; rintro e w2 ⟨rfl, rfl⟩; rw [H2.out])
          go_ret2
          exact ⟨hm, .inr (.inr ⟨k, b, m, cap, HI.out, HB.out, rfl, rfl⟩)⟩

theorem argsBad_false {t n : Int} (h : argsBad t n = false) : 0 ≤ t ∧ t < 16 ∧ 1 ≤ n ∧ n ≤ 2147483647 := by
  unfold argsBad most at h
  rw [Bool.or_eq_false_iff, Bool.or_eq_false_iff] at h
  obtain ⟨⟨h1, h2⟩, h3⟩ := h
  unfold tenB at h1
  have e2 := of_decide_eq_false h2
  have e3 := of_decide_eq_false h3
  simp at h1
  omega

/-- a chunk's references are changed in the table -/
theorem inv_refs {l : List Ck} (h : Inv l) {k : Nat} {c : Ck} {t n : Int} (hk : l[k]? = some c) (ht : 0 ≤ t ∧ t < 16) (hn : 0 ≤ n) (hne : withL c.refs t n ≠ []) (htot : totalL c.refs - heldL c.refs t + n ≤ most) :
    Inv (l.set k { c with refs := withL c.refs t n }) := by
  have hc := h.each c (List.mem_of_getElem? hk)
  refine inv_set h hk rfl ⟨hc.id1, hc.id2, hc.dig, rising_with hc.refs t n, hne, fun x hx => ?_, by rw [total_with hc.refs t n hn]; exact htot, hc.pos, hc.gone⟩ (fun e j d hj hd e2 => (inv_at.1 h).2.2 j k d c hj hd hk e2 e)
  rcases mem_with hx with h1 | ⟨rfl, h2⟩
  · exact hc.ref1 x h1
  · exact ⟨ht.1, ht.2, by omega⟩

/-- the references' cell of the chunk at k was written -/
theorem tab_refs {w w2 w3 : World} {tb mb b n cap : Nat} {l : List Ck} (hT : Tab w2 tb mb (.slice (some ⟨b, 0, none⟩) n cap) l) {k : Nat} {c : Ck} (hk : l[k]? = some c) {cur : List Value} (hcur : w2.heap[b]? = some (.cells cur.toArray 45 (0, 0)))
    {r : List (Int × Int)} {rv' : Value} (h3 : w3.heap[b]? = some (.cells (cur.set (k * 23 + 22) rv').toArray 45 (0, 0))) (hm : Mod [b] w2 w3) (hr : Refs w2 rv' r) (hi : Inv (l.set k { c with refs := r })) (_ : w = w) :
    Tab w3 tb mb (.slice (some ⟨b, 0, none⟩) n cap) (l.set k { c with refs := r }) := by
  have hp := hT.parts
  obtain ⟨cs, M, a1, a2, a3, a4, a5, a6⟩ := hT
  subst a3
  obtain ⟨rv, hcs, _, _, hd⟩ := a2.at hk
  obtain ⟨cur', hb, hn, hcap, hlen, _⟩ := a2.1.block
  rw [hcur] at hb
  have : cur = cur' := by simpa using hb
  subst this
  have hkl := (List.getElem?_eq_some_iff.1 hcs).1
  have hl : k * 23 + 23 ≤ cur.length := by rw [List.length_map] at hn; omega
  have hke : (cs.map fun p => p.1.cells p.2)[k]? = some (c.cells rv) := by simp [hcs]
  have o3 := Own.write a2.1 hcur (k := k) (j := 22) (cs := [rv']) hke (by simp) (by rw [splice_one _ _ _ (by omega)]; exact h3)
  rw [Ck.spliceRefs hd rv rv' r] at o3
  have hnr : NoRefs w2 [b] := NoRefs.one hcur (by decide)
  have hch := a2.write hm hnr o3 (hr.mod hm hnr)
  have hbt := hp.2.1 b rfl
  exact ⟨_, M, hm.heap a1 (by simpa using fun e => hbt.1 e.symm), hch, by rw [cksOf_set], a4.mod hm (by simpa using fun e => hbt.2 e.symm), agree_refs a5 a6 hk hi, hi⟩

end Go.Proofs.Ytknkifanpppglaa

/- Walks: Refer. -/
namespace Go.Proofs.Ytknkifanpppglaa
open Go.RowKit

theorem Refs.isSlice {w : World} {rv : Value} {r : List (Int × Int)} (h : Refs w rv r) : ∃ a n c, rv = .slice a n c := by
  rcases h.shape with ⟨rfl, _⟩ | ⟨b, cap, rfl, _⟩ <;> exact ⟨_, _, _, rfl⟩

set_option maxRecDepth 100000 in
set_option maxHeartbeats 4000000 in
theorem refer_any (w : World) (tb mb : Nat) (lv : Value) (l : List Ck) (id t n : Int) (h : Tab w tb mb lv l) :
    Calls Try.prog 52 #[.pointer (some ⟨tb, 0, none⟩), .int .i64 id, .int .i64 t, .int .i64 n] w (TabPost tb mb lv (referL l id t n).1 (.int .i64 (referL l id t n).2) w) := by
  have HT := Lib.hid h
  clear h
  go_enter Try.func52, Try.ntmps52
  go_wp2_with fail
  refine (change_any _ tb mb lv l id t n HT.out).mono ?_
  rintro e w1 ⟨hm, hf⟩
  rcases hf with ⟨hi, rfl⟩ | ⟨⟨k, hi⟩, hb, rfl⟩ | ⟨k, b, m, cap, hi, hb, rfl, rfl⟩
  · have e1 : referL l id t n = (l, 12) := by simp [referL, hi]
    have HE := Lib.hid e1
    clear hi e1
    go_wp2
    go_ret
    exact ⟨lv, by rw [HE.out]; rfl, by rw [HE.out]; exact HT.out.mod0 hm, hm.nil, .inl rfl⟩
  · have e1 : referL l id t n = (l, 1) := by simp [referL, hi, hb]
    have HE := Lib.hid e1
    clear hi hb e1
    go_wp2
    go_ret
    exact ⟨lv, by rw [HE.out]; rfl, by rw [HE.out]; exact HT.out.mod0 hm, hm.nil, .inl rfl⟩
  · obtain ⟨c, hk, hid, _⟩ := idxOf_some.1 hi
    obtain ⟨ht0, ht1, hn0, hn1⟩ := argsBad_false hb
    obtain ⟨cs, M, a1, a2, a3, a4, a5, a6⟩ := HT.out.mod0 hm
    have a3' := a3
    subst a3'
    obtain ⟨rv, hcs, hrow, hrf, hd⟩ := a2.at hk
    have hok := a6.each c (List.mem_of_getElem? hk)
    have c22 := hrow 22 _ (Ck.c22 hd rv)
    have hrl := hok.len
    have htot := total_take_le (fun x hx => (hok.ref1 x hx).2.2) c.refs.length
    rw [List.take_of_length_le (Nat.le_refl _)] at htot
    have htm := hok.tot
    unfold most at htm
    have hhb := held_bounds (fun x hx => (hok.ref1 x hx).2.2) t
    obtain ⟨cur, hcur, _⟩ := a2.1.block
    have HR := Lib.hid hrf
    have HOk := Lib.hid hok
    have HK := Lib.hid hk
    have HCur := Lib.hid hcur
    have H6 := Lib.hid a6
    have fz : w1.frozen? ⟨b, k * 23 + 22, none⟩ = false := frozen_of_row w1 b _ _ _ hcur
    have e0 : referL (cksOf cs) id t n = if totalL c.refs + n > most then (cksOf cs, 2) else ((cksOf cs).set k { c with refs := withL c.refs t (heldL c.refs t + n) }, 0) := by simp [referL, hi, hb, hk]
    clear hi hk hid hb a1 a2 a3 a4 a5 a6 hcs hrow hrf hd hok hcur M
    by_cases hbig : totalL c.refs + n > most
    · rw [if_pos hbig] at e0
      have HE := Lib.hid e0
      unfold most at hbig
      have hbig' : 2147483647 - totalL c.refs < n := by omega
      clear e0 hbig
      go_wp2_with (go_at_call 99; refine (total_any w1 rv c.refs HR.out (fun x hx => (HOk.out.ref1 x hx).2.2) HOk.out.tot (by omega)).mono ?_; rintro e w2 ⟨rfl, hm2⟩)
      go_ret
      exact ⟨_, by rw [HE.out]; rfl, by rw [HE.out]; exact HT.out.mod0 (hm.trans_nil hm2), (hm.trans_nil hm2).nil, .inl rfl⟩
    · rw [if_neg hbig] at e0
      have HE := Lib.hid e0
      unfold most at hbig
      have hbig' : ¬ 2147483647 - totalL c.refs < n := by omega
      clear e0 hbig
      go_wp2_with (go_at_call 99; refine (total_any w1 rv c.refs HR.out (fun x hx => (HOk.out.ref1 x hx).2.2) HOk.out.tot (by omega)).mono ?_; rintro e w2 ⟨rfl, hm2⟩; have d22 := hm2.cell c22 (by simp); have hr2 := HR.out.mod0 hm2; have HR2 := Lib.hid hr2; clear hr2)
      have hsum : IntKind.i64.wrap (heldL c.refs t + n) = heldL c.refs t + n := IntWalk.i64_in _ (by omega)
      go_region_with (first | (go_at_call 63; refine (held_any _ rv c.refs t (HR2.out.mod0 ((Mod.refl [] w2).drew)) HOk.out.refs (by omega)).mono ?_; rintro e w3 ⟨rfl, hm3⟩; have f22 := hm3.cell (b := b) (o := k * 23 + 22) d22 (by simp)) | (go_at_call 100; refine (with_any _ rv c.refs t (heldL c.refs t + n) ((HR2.out.mod0 ((Mod.refl [] w2).drew)).mod0 hm3) HOk.out.refs HOk.out.refsNe (by omega) (by omega) (by omega)).mono ?_; rintro e w4 ⟨rv', rfl, hr', hm4, _⟩; obtain ⟨sa, sn, sc, rfl⟩ := hr'.isSlice; have g22 := hm4.cell (b := b) (o := k * 23 + 22) f22 (by simp); have hcur4 := hm4.heap (hm3.heap (b := b) (hm2.heap HCur.out (by simp)) (by simp)) (by simp); have fz4 := frozen_of_row w4 b (k * 23 + 22) _ _ hcur4; have HCur4 := Lib.hid hcur4; clear hcur4))
      all_goals
        go_wp2
        go_ret
        have hm4' : Mod [] w w4 := ((((hm.trans_nil hm2).drew).trans_nil hm3).trans_nil hm4)
        have hT4 := HT.out.mod0 hm4'
        have hs : (w4.setCell ⟨b, k * 23 + 22, none⟩ (.slice sa sn sc)).heap[b]? = some (.cells (cur.set (k * 23 + 22) (.slice sa sn sc)).toArray 45 (0, 0)) := by
          rw [heap_setCell_same w4 b (k * 23 + 22) _ _ _ HCur4.out]
          simp
        have hinv := inv_refs H6.out HK.out (t := t) (n := heldL c.refs t + n) ⟨ht0, ht1⟩ (by omega) (with_ne (by omega)) (by unfold most; omega)
        have hmS : Mod [b] w4 (w4.setCell ⟨b, k * 23 + 22, none⟩ (.slice sa sn sc)) := (Mod.refl _ _).setCell _ _ (by simp)
        have hT5 := tab_refs (w := w) hT4 HK.out HCur4.out hs hmS hr' hinv rfl
        exact ⟨_, by rw [HE.out]; rfl, by rw [HE.out]; exact hT5, hm4'.nil.trans hmS (by simp [foot, Value.ownBlock]), .inl rfl⟩

end Go.Proofs.Ytknkifanpppglaa

/- Walks: slices.IndexFunc and slices.DeleteFunc of chunks, as Unrefer calls them. -/
namespace Go.Proofs.Ytknkifanpppglaa
open Go.RowKit

theorem unref1_any (cs : List Value) (x id : Int) (ib : Nat) (h0 : cs[0]? = some (.int .i64 x)) (w : World) (hib : w.cell? ⟨ib, 0, none⟩ = some (.int .i64 id)) :
    Calls Try.prog 102 #[.agg cs.toArray, .pointer (some ⟨ib, 0, none⟩)] w fun e w' => e = .returned (.bool (x == id)) ∧ Mod [] w w' := by
  have hlt := Go.block_lt_of_cell hib
  go_enter Try.func102, Try.ntmps102
  go_wp2
  go_ret
  exact ⟨rfl, (Mod.refl _ _).alloc _⟩

set_option maxHeartbeats 1000000 in
theorem indexFunc_any (w : World) (b n cap ib k : Nat) (cs : List (Ck × Value)) (id : Int) (hn : n = cs.length) (hlen : n ≤ 65536) (hrow : ∀ (j : Nat) p, cs[j]? = some p → Row w b (j * 23) (p.1.cells p.2)) (hdig : ∀ p ∈ cs, p.1.dig.length = 16)
    (hib : w.cell? ⟨ib, 0, none⟩ = some (.int .i64 id)) (hkn : k < n) (hk : ∀ p, cs[k]? = some p → p.1.id = id) (hlt : ∀ (j : Nat) p, j < k → cs[j]? = some p → p.1.id ≠ id) :
    Calls Try.prog 128 #[.slice (some ⟨b, 0, none⟩) n cap, .func (.func 102) #[] #[.pointer (some ⟨ib, 0, none⟩)]] w fun e w' => e = .returned (.int .i64 k) ∧ Mod [] w w' := by
  have HR := Lib.hid hrow
  have HD := Lib.hid hdig
  have HK := Lib.hid hk
  have HL := Lib.hid hlt
  have HN := Lib.hid hn
  clear hrow hdig hk hlt hn
  go_enter Try.func128, Try.ntmps128
  go_wp2
  go_loopw [8] (fun s8 wr => ∃ j : Nat, j ≤ k ∧ s8 = .int .i64 j ∧ Mod [] w wr) (fun s8 _ => n - (intOf s8).toNat)
  case atStart => exact ⟨0, Nat.zero_le _, rfl, Mod.refl _ _⟩
  case round =>
    obtain ⟨j, hj, rfl, hm⟩ := hrel
    obtain ⟨p, hp⟩ : ∃ p, cs[j]? = some p := ⟨_, List.getElem?_eq_getElem (by have := HN.out; omega)⟩
    have hrw : Row wr b (j * 23) (p.1.cells p.2) := (HR.out j p hp).mod hm (by simp)
    have hd := HD.out p (List.mem_of_getElem? hp)
    have hib' := hm.cell hib (by simp)
    have HP := Lib.hid hp
    have HDd := Lib.hid hd
    clear hp hd
    by_cases hjk : j = k
    · subst hjk
      have hx : (p.1.id == id) = true := by simpa using HK.out p HP.out
      go_wp2_with (first | (refine wpList_load_at rfl 45 (.tmp 14) rfl _ Try.underlying45 rfl 23 info45 b (j * 23) (p.1.cells p.2) rfl hrw (by rw [Ck.cells_len, HDd.out]) ?_) | (go_at_call 102; refine (unref1_any _ p.1.id id ib rfl _ hib').mono ?_; rintro e w' ⟨rfl, hm1⟩; rw [hx]))
      go_ret
      exact ⟨rfl, hm.trans_nil hm1⟩
    · have hx : (p.1.id == id) = false := by simpa using HL.out j p (by omega) HP.out
      go_wp2_with (first | (refine wpList_load_at rfl 45 (.tmp 14) rfl _ Try.underlying45 rfl 23 info45 b (j * 23) (p.1.cells p.2) rfl hrw (by rw [Ck.cells_len, HDd.out]) ?_) | (go_at_call 102; refine (unref1_any _ p.1.id id ib rfl _ hib').mono ?_; rintro e w' ⟨rfl, hm1⟩; rw [hx]))
      go_roundw
      case rel => exact ⟨j + 1, by omega, by go_num, hm.trans_nil hm1⟩
      case measure => simp [intOf]; omega

theorem Refs.sliceLen {w : World} {rv : Value} {r : List (Int × Int)} (h : Refs w rv r) : ∃ a c, rv = .slice a r.length c := by
  rcases h.shape with ⟨rfl, rfl⟩ | ⟨b, cap, rfl, _⟩ <;> exact ⟨_, _, rfl⟩

theorem zrow_ck : ((Try.prog.info? 45).bind (·.zero)).map (·.cells.toList) = some zeroCells := by kernel_rfl

/-- the rows after element k has been struck and the rest moved down to place j - 1 -/
def delRows (R es : List (List Value)) (k j : Nat) : List (List Value) := splice R k ((es.drop (k + 1)).take (j - (k + 1)))

theorem delRows_len (R es : List (List Value)) (k j n : Nat) (hn : es.length = n) (hR : n ≤ R.length) (hk : k < n) : (delRows R es k j).length = R.length := by
  unfold delRows
  exact length_splice _ _ _ (by simp; omega)

theorem delRows_get (R es : List (List Value)) (k j n : Nat) (hn : es.length = n) (ht : R.take n = es) (hR : n ≤ R.length) (hk : k < n) (hj : k + 1 ≤ j) (hjn : j < n) : (delRows R es k j)[j]? = es[j]? := by
  unfold delRows
  rw [splice_getge _ _ _ _ (by simp; omega) (by simp; omega), ← ht, List.getElem?_take, if_pos hjn]

theorem delRows_succ (R es : List (List Value)) (k j n : Nat) (r : List Value) (hn : es.length = n) (hR : n ≤ R.length) (hk : k < n) (hj : k + 1 ≤ j) (hr : es[j]? = some r) : delRows R es k (j + 1) = (delRows R es k j).set (j - 1) r := by
  unfold delRows
  have e : (es.drop (k + 1)).take (j + 1 - (k + 1)) = (es.drop (k + 1)).take (j - (k + 1)) ++ [r] := by
    rw [show j + 1 - (k + 1) = (j - (k + 1)) + 1 by omega]
    have hg : (es.drop (k + 1))[j - (k + 1)]? = some r := by rw [List.getElem?_drop, show k + 1 + (j - (k + 1)) = j by omega]; exact hr
    have h2 := List.getElem?_eq_some_iff.1 hg
    rw [List.take_succ_eq_append_getElem h2.1, h2.2]
  have hjn := (List.getElem?_eq_some_iff.1 hr).1
  rw [e, splice_snoc _ _ _ _ (by simp; omega)]
  congr 1
  simp; omega

theorem delRows_end (R es : List (List Value)) (k n : Nat) (z : List (List Value)) (hn : es.length = n) (ht : R.take n = es) (hR : n ≤ R.length) (hk : k < n) : (splice (delRows R es k n) (n - 1) z).take (n - 1) = es.eraseIdx k := by
  have h1 : (splice (delRows R es k n) (n - 1) z).take (n - 1) = (delRows R es k n).take (n - 1) := by
    unfold splice
    have hl := delRows_len R es k n n hn hR hk
    rw [List.take_append_of_le_length (by rw [List.length_take, hl]; omega), List.take_take, Nat.min_self]
  rw [h1]
  unfold delRows splice
  have e1 : (es.drop (k + 1)).take (n - (k + 1)) = es.drop (k + 1) := List.take_of_length_le (by simp; omega)
  have e2 : R.take k = es.take k := by rw [← ht, List.take_take, Nat.min_eq_left (by omega)]
  rw [e1, e2, ← List.append_assoc, List.take_append_of_le_length (by simp; omega), List.take_of_length_le (by simp; omega), List.eraseIdx_eq_take_drop_succ]

def DelPost (b n cap : Nat) (es' : List (List Value)) (w : World) (e : Ending) (w' : World) : Prop :=
  e = .returned (.slice (some ⟨b, 0, none⟩) (n - 1) cap) ∧ Own w' 45 23 (.slice (some ⟨b, 0, none⟩) (n - 1) cap) es' ∧ Mod [b] w w'

set_option maxRecDepth 100000 in
set_option maxHeartbeats 2000000 in
theorem deleteFunc_any (w : World) (b n cap ib k : Nat) (cs : List (Ck × Value)) (id : Int) (hown : Own w 45 23 (.slice (some ⟨b, 0, none⟩) n cap) (cs.map fun p => p.1.cells p.2)) (hlen : n ≤ 65536) (h1 : ∀ p ∈ cs, p.2.oneCell' = true)
    (hib : w.cell? ⟨ib, 0, none⟩ = some (.int .i64 id)) (hne : ib ≠ b) (hkn : k < n) (hk : ∀ p, cs[k]? = some p → p.1.id = id) (hoth : ∀ (j : Nat) p, j ≠ k → cs[j]? = some p → p.1.id ≠ id) :
    Calls Try.prog 101 #[.slice (some ⟨b, 0, none⟩) n cap, .func (.func 102) #[] #[.pointer (some ⟨ib, 0, none⟩)]] w (DelPost b n cap ((cs.map fun p => p.1.cells p.2).eraseIdx k) w) := by
  obtain ⟨R, hblk, hRl, hRt, hnl, hnc, hcm⟩ := hown.blk
  have hnl' : n = cs.length := by rw [hnl, List.length_map]
  have hrow : ∀ (j : Nat) p, cs[j]? = some p → Row w b (j * 23) (p.1.cells p.2) := fun j p hp => hown.row j _ (by simp [hp])
  have hdig : ∀ p ∈ cs, p.1.dig.length = 16 := by
    intro p hp
    have := hown.1 (p.1.cells p.2) (List.mem_map.2 ⟨p, hp, rfl⟩)
    rw [Ck.cells_len] at this; omega
  have hcall := indexFunc_any w b n cap ib k cs id hnl' hlen hrow hdig hib hkn hk (fun j p hj hp => hoth j p (by omega) hp)
  have hrn : n ≤ R.length := by omega
  have hel : (cs.map fun p => p.1.cells p.2).length = n := hnl.symm
  have hb1 := hblk.mod (Mod.refl [] w) (by simp)
  have HC := Lib.hid hcall
  have HB := Lib.hid hblk
  have HRl := Lib.hid hRl
  have HRt := Lib.hid hRt
  have HN := Lib.hid hnl'
  have HD := Lib.hid hdig
  have HO := Lib.hid hoth
  have H1 := Lib.hid h1
  have HEl := Lib.hid hel
  have hk1 : ((k : Int) == -1) = false := by simp
  have hnl2 := hown.lt b rfl
  clear hown hblk hRl hRt hnl hnl' hrow hdig hcall hk hoth hb1 h1 hel
  go_enter Try.func101, Try.ntmps101
  go_wp2_with (go_at_call 128; refine HC.out.mono ?_; rintro e w1 ⟨rfl, hm1⟩)
  go_loopw [5, 6] (fun s5 s6 wr => ∃ j : Nat, k + 1 ≤ j ∧ j ≤ n ∧ s6 = .int .i64 j ∧ s5 = .int .i64 (j - 1 : Nat) ∧ Hid (Blk wr b 45 23 (delRows R (cs.map fun p => p.1.cells p.2) k j)) ∧ Mod [b] w wr) (fun _ s6 _ => n - (intOf s6).toNat)
  case atStart =>
    refine ⟨k + 1, Nat.le_refl _, by omega, rfl, rfl, ?_, hm1.nil⟩
    have : delRows R (cs.map fun p => p.1.cells p.2) k (k + 1) = R := by unfold delRows; rw [Nat.sub_self, List.take_zero, splice_nil]
    show Blk _ _ _ _ _
    rw [this]
    exact HB.out.mod hm1 (by simp)
  case round =>
    obtain ⟨j, hj1, hj2, rfl, rfl, hbr, hm⟩ := hrel
    have hib' := hm.cell hib (by simpa using hne)
    have hsz := hm.size
    by_cases hjn : j < n
    · obtain ⟨p, hp⟩ : ∃ p, cs[j]? = some p := ⟨_, List.getElem?_eq_getElem (by have := HN.out; omega)⟩
      have hpe : (cs.map fun p => p.1.cells p.2)[j]? = some (p.1.cells p.2) := by simp [hp]
      have hget := delRows_get R _ k j n HEl.out HRt.out hrn hkn hj1 hjn
      have hsucc := delRows_succ R _ k j n _ HEl.out hrn hkn hj1 hpe
      have hdl := delRows_len R (cs.map fun p => p.1.cells p.2) k j n HEl.out hrn hkn
      rw [hpe] at hget
      have hrw : Row wr b (j * 23) (p.1.cells p.2) := hbr.out.row hget
      have hd := HD.out p (List.mem_of_getElem? hp)
      have hp1 := H1.out p (List.mem_of_getElem? hp)
      have hx : (p.1.id == id) = false := by simpa using HO.out j p (by omega) hp
      have HS := Lib.hid hsucc
      have HDl := Lib.hid hdl
      have HDd := Lib.hid hd
      have HP1 := Lib.hid hp1
      obtain ⟨i, rfl⟩ : ∃ i, j = i + 1 := ⟨j - 1, by omega⟩
      rw [Nat.add_sub_cancel] at *
      clear hp hpe hget hsucc hd hdl hp1
      go_wp2_with (first | (refine wpList_load_at rfl 45 (.tmp 24) rfl _ Try.underlying45 rfl 23 info45 b ((i + 1) * 23) (p.1.cells p.2) rfl hrw (by rw [Ck.cells_len, HDd.out]) ?_) | (refine wpList_store_at rfl 45 (.tmp 7) (.tmp 25) rfl 23 info45 wr.heap.size 0 45 zeroCells (p.1.cells p.2) rfl rfl (heap_alloc_at _ _) (by rw [Ck.cells_len, HDd.out]) (oneCell_ck HP1.out) (by simp [zeroCells, Ck.cells_len, HDd.out]) ?_; intro w2 hhw2 hsw2; have hmw2 := ((Mod.refl [] wr).alloc (.cells zeroCells.toArray 45)).trans hsw2 (by simp); rw [splice_all _ _ (by simp [zeroCells, Ck.cells_len, HDd.out])] at hhw2; have roww2 := Row.of_heap hhw2; have HHw2 := Lib.hid hhw2; clear hhw2; have hib2 := hmw2.cell hib' (by simp); have hb2 := hbr.out.mod hmw2 (by simp); have HB2 := Lib.hid hb2; clear hb2) | (refine wpList_load_at rfl 45 (.tmp 7) rfl _ Try.underlying45 rfl 23 info45 wr.heap.size (0) (p.1.cells p.2) rfl roww2 (by rw [Ck.cells_len, HDd.out]) ?_) | (go_at_call 102; refine (unref1_any _ p.1.id id ib rfl _ hib2).mono ?_; rintro e w3 ⟨rfl, hm3⟩; rw [hx]; have hib3 := hm3.cell hib2 (by simp); have hb3 := HB2.out.mod hm3 (by simp); have HB3 := Lib.hid hb3; clear hb3; have row3 := roww2.mod hm3 (by simp)) | (refine wpList_load_at rfl 45 (.tmp 7) rfl _ Try.underlying45 rfl 23 info45 wr.heap.size (0) (p.1.cells p.2) rfl row3 (by rw [Ck.cells_len, HDd.out]) ?_) | (refine wpList_store_at rfl 45 (.tmp 33) (.tmp 32) rfl 23 info45 b (i * 23) 45 _ (p.1.cells p.2) rfl rfl HB3.out.2 (by rw [Ck.cells_len, HDd.out]) (oneCell_ck HP1.out) (by rw [HB3.out.len, HDl.out, HRl.out, Ck.cells_len, HDd.out]; omega) ?_; intro w4 hh4 hm4; have HH4 := Lib.hid hh4; clear hh4))
      go_roundw
      case rel =>
        refine ⟨i + 1 + 1, by omega, by omega, by go_num, int_eq (by omega), ?_, ((hm.trans_nil hmw2).trans_nil hm3).trans hm4 (by simp)⟩
        show Blk _ _ _ _ _
        rw [HS.out]
        exact HB3.out.setRow (by rw [HDl.out, HRl.out]; omega) (by rw [Ck.cells_len, HDd.out]) HH4.out
      case measure => simp [intOf]; omega
    · obtain rfl : j = n := by omega
      have hdl := delRows_len R (cs.map fun p => p.1.cells p.2) k j j HEl.out hrn hkn
      have HDl := Lib.hid hdl
      clear hdl
      obtain ⟨i, rfl⟩ : ∃ i, j = i + 1 := ⟨j - 1, by omega⟩
      rw [Nat.add_sub_cancel] at *
      have hcap1 : ¬ cap = i := by omega
      have hi1 : i + 1 - i = 1 := by omega
      go_wp2_with (refine wpList_clear_blk sty_ck zrow_ck (oneCell_ck (c := zeroCk) (rv := nilV) rfl) rfl (.tmp 38) rfl b i _ _ rfl (by omega) _ hbr.out (by rw [HDl.out, HRl.out]; omega) ?_; intro w4 hb4 hm4; have HB4 := Lib.hid hb4; clear hb4)
      go_ret
      have hfin := delRows_end R (cs.map fun p => p.1.cells p.2) k (i + 1) (List.replicate 1 zeroCells) HEl.out HRt.out hrn hkn
      rw [Nat.add_sub_cancel] at hfin
      have hl4 : (splice (delRows R (cs.map fun p => p.1.cells p.2) k (i + 1)) i (List.replicate 1 zeroCells)).length = cap := by
        rw [length_splice _ _ _ (by rw [HDl.out, HRl.out]; simp; omega), HDl.out, HRl.out]
      have hown := HB4.out.own i (by rw [hl4]; omega) (by rw [hl4]; exact hcm) _ hfin
      rw [hl4] at hown
      exact ⟨rfl, hown, hm.trans hm4 (by simp)⟩

end Go.Proofs.Ytknkifanpppglaa

/- Walks: Unrefer. -/
namespace Go.Proofs.Ytknkifanpppglaa
open Go.RowKit

theorem inv_erase {l : List Ck} (h : Inv l) (k : Nat) : Inv (l.eraseIdx k) :=
  ⟨h.ids.sublist (List.eraseIdx_sublist _ _), fun c hc => h.each c ((List.eraseIdx_sublist _ _).subset hc), h.uniq.sublist (List.eraseIdx_sublist _ _)⟩

theorem agree_erase {M : List (U3 × Int)} {l : List Ck} (hn : (M.map (·.1)).Nodup) (ha : Agree M l) (h : Inv l) {k : Nat} {c : Ck} (hk : l[k]? = some c) : Agree (mleave M c) (l.eraseIdx k) := by
  intro u
  apply opt_ext
  intro i
  rw [mget_leave hn ha h hk, atU_iff (inv_erase h k)]
  constructor
  · rintro ⟨j, d, hne, h1, h2⟩
    have : d ∈ l.eraseIdx k := List.mem_eraseIdx_iff_getElem?.2 ⟨j, hne, h1⟩
    obtain ⟨j', hj', he⟩ := List.getElem_of_mem this
    exact ⟨j', d, by rw [List.getElem?_eq_getElem hj', he], h2⟩
  · rintro ⟨j, d, h1, h2⟩
    obtain ⟨j', hne, hj'⟩ := List.mem_eraseIdx_iff_getElem?.1 (List.mem_of_getElem? h1)
    exact ⟨j', d, hne, hj', h2⟩

theorem infoRefs : (Try.prog.info? 43).map (·.size) = some 1 := by kernel_rfl

theorem infoCks : (Try.prog.info? 32).map (·.size) = some 1 := by kernel_rfl

theorem map_eraseIdx {α β : Type} (f : α → β) : ∀ (l : List α) (k : Nat), (l.map f).eraseIdx k = (l.eraseIdx k).map f
  | [], _ => by simp
  | _ :: _, 0 => by simp
  | _ :: r, k + 1 => by simp [map_eraseIdx f r k]

theorem Chunks.erase {w w' : World} {b n cap m cap' : Nat} {cs : List (Ck × Value)} (h : Chunks w (.slice (some ⟨b, 0, none⟩) n cap) cs) {S : List Nat} (hm : Mod S w w') (hS : NoRefs w S) {k : Nat}
    (ho : Own w' 45 23 (.slice (some ⟨b, 0, none⟩) m cap') ((cs.map fun p => p.1.cells p.2).eraseIdx k)) : Chunks w' (.slice (some ⟨b, 0, none⟩) m cap') (cs.eraseIdx k) :=
  ⟨by rw [map_eraseIdx] at ho; exact ho, fun p hp => (h.2 p ((List.eraseIdx_sublist _ _).subset hp)).mod hm hS⟩

theorem held_pos {r : List (Int × Int)} {t : Int} (h : heldL r t ≠ 0) : ∃ x ∈ r, x.1 = t := by
  unfold heldL at h
  cases hf : r.find? (fun x => x.1 == t) with
  | none => rw [hf] at h; exact absurd rfl h
  | some x => exact ⟨x, List.mem_of_find?_eq_some hf, by simpa using List.find?_some hf⟩

set_option maxRecDepth 100000 in
set_option maxHeartbeats 4000000 in
theorem unrefer_any (w : World) (tb mb : Nat) (lv : Value) (l : List Ck) (id t n : Int) (h : Tab w tb mb lv l) :
    Calls Try.prog 53 #[.pointer (some ⟨tb, 0, none⟩), .int .i64 id, .int .i64 t, .int .i64 n] w (TabPost tb mb lv (unreferL l id t n).1 (.tuple #[.bool (unreferL l id t n).2.1, .int .i64 (unreferL l id t n).2.2]) w) := by
  have HT := Lib.hid h
  clear h
  have hma : Mod [] w (w.alloc (.cells #[.int .i64 id] 3)) := (Mod.refl _ _).alloc _
  go_enter Try.func53, Try.ntmps53
  go_wp2_with fail
  refine (change_any _ tb mb lv l id t n (HT.out.mod0 hma)).mono ?_
  rintro e w1 ⟨hm', hf⟩
  have hm : Mod [] w w1 := hma.trans_nil hm'
  have hib : w1.cell? ⟨w.heap.size, 0, none⟩ = some (.int .i64 id) := hm'.cell (by rw [cell_of_row _ _ _ _ _ _ (heap_alloc_at w _)]; rfl) (by simp)
  clear hma hm'
  rcases hf with ⟨hi, rfl⟩ | ⟨⟨k, hi⟩, hb, rfl⟩ | ⟨k, b, m, cap, hi, hb, rfl, rfl⟩
  · have e1 : unreferL l id t n = (l, false, 12) := by simp [unreferL, hi]
    have HE := Lib.hid e1
    clear hi e1
    go_wp2
    go_ret2
    exact ⟨lv, by rw [HE.out]; rfl, by rw [HE.out]; exact HT.out.mod0 hm, hm.nil, .inl rfl⟩
  · have e1 : unreferL l id t n = (l, false, 1) := by simp [unreferL, hi, hb]
    have HE := Lib.hid e1
    clear hi hb e1
    go_wp2
    go_ret2
    exact ⟨lv, by rw [HE.out]; rfl, by rw [HE.out]; exact HT.out.mod0 hm, hm.nil, .inl rfl⟩
  · obtain ⟨c, hk, hid, hothers⟩ := idxOf_some.1 hi
    obtain ⟨ht0, ht1, hn0, hn1⟩ := argsBad_false hb
    have hparts := HT.out.parts
    have HP := Lib.hid hparts
    obtain ⟨cs, M, a1, a2, a3, a4, a5, a6⟩ := HT.out.mod0 hm
    have a3' := a3
    subst a3'
    obtain ⟨rv, hcs, hrow, hrf, hd⟩ := a2.at hk
    have hok := a6.each c (List.mem_of_getElem? hk)
    have c22 := hrow 22 _ (Ck.c22 hd rv)
    have hrl := hok.len
    have htm := hok.tot
    unfold most at htm
    have hhb := held_bounds (fun x hx => (hok.ref1 x hx).2.2) t
    obtain ⟨cur, hcur, hcn, hcc, hcl, _⟩ := a2.1.block
    have hbl : k * 23 + 23 ≤ cur.length := by have := (List.getElem?_eq_some_iff.1 hcs).1; rw [List.length_map] at hcn; omega
    have hml : m = cs.length := by simpa using hcn
    have hm65 : m ≤ 65536 := by have := inv_len a6; rw [cksOf_len] at this; omega
    have hkm6 : k < m := by have := (List.getElem?_eq_some_iff.1 hcs).1; omega
    clear hml
    have hbl2 : k * 23 + 22 < cur.length := by omega
    have HR := Lib.hid hrf
    have HOk := Lib.hid hok
    have HK := Lib.hid hk
    have HCur := Lib.hid hcur
    have H6 := Lib.hid a6
    have e0 : unreferL (cksOf cs) id t n = if heldL c.refs t - n < 0 then (cksOf cs, false, 12) else if withL c.refs t (heldL c.refs t - n) ≠ [] then ((cksOf cs).set k { c with refs := withL c.refs t (heldL c.refs t - n) }, false, 0) else ((cksOf cs).eraseIdx k, true, 0) := by simp [unreferL, hi, hb, hk]
    have HId := Lib.hid hid
    have HCs := Lib.hid hcs
    have HD := Lib.hid hd
    have H1 := Lib.hid a1
    have H2 := Lib.hid a2
    have H4 := Lib.hid a4
    have H5 := Lib.hid a5
    clear hi hk hid hothers hb a1 a2 a3 a4 a5 a6 hcs hrow hrf hd hok hcur hcn hcc hcl hparts
    by_cases hneg : heldL c.refs t - n < 0
    · rw [if_pos hneg] at e0
      have HE := Lib.hid e0
      clear e0
      go_wp2_with (go_at_call 63; refine (held_any w1 rv c.refs t HR.out HOk.out.refs (by omega)).mono ?_; rintro e w2 ⟨rfl, hm2⟩)
      go_ret2
      exact ⟨_, by rw [HE.out]; rfl, by rw [HE.out]; exact HT.out.mod0 (hm.trans_nil hm2), (hm.trans_nil hm2).nil, .inl rfl⟩
    · rw [if_neg hneg] at e0
      have hex := held_pos (r := c.refs) (t := t) (by omega)
      have HEx := Lib.hid hex
      clear hex
      obtain ⟨r', hr'⟩ : ∃ r', r' = withL c.refs t (heldL c.refs t - n) := ⟨_, rfl⟩
      rw [← hr'] at e0
      have HR' := Lib.hid hr'
      by_cases hemp : r' = []
      · subst hemp
        rw [if_neg (by simp)] at e0
        have HE := Lib.hid e0
        have hbt := HP.out.2.1 b rfl
        have htm' := HP.out.1
        have hbw := HP.out.2.2.2.2.2 b rfl
        have hmw := HP.out.2.2.2.2.1
        have htw := HP.out.2.2.2.1
        clear e0 hr'
        go_wp2_with (first | (go_at_call 63; refine (held_any w1 rv c.refs t HR.out HOk.out.refs (by omega)).mono ?_; rintro e w2 ⟨rfl, hm2⟩; have d22 := hm2.cell c22 (by simp)) | (go_at_call 100; refine (with_any w2 rv c.refs t (heldL c.refs t - n) (HR.out.mod0 hm2) HOk.out.refs HOk.out.refsNe (by omega) (by omega) (fun _ => HEx.out)).mono ?_; rintro e w4 ⟨rv', rfl, hrv', hm4, _⟩; rw [← HR'.out] at hrv'; have hcur4 := hm4.heap (hm2.heap (b := b) HCur.out (by simp)) (by simp); have HCur4 := Lib.hid hcur4; clear hcur4; have HRv := Lib.hid hrv') | (refine wpList_store1 rfl 43 (.tmp 43) (.tmp 41) rfl infoRefs b (k * 23 + 22) 45 cur rv' rfl rfl HCur4.out HRv.out.one hbl2 ?_; intro w5 hh5 hm5; have HH5 := Lib.hid hh5; clear hh5 hrv'; obtain ⟨sa, sc, hsl⟩ := HRv.out.sliceLen; have hv5 : w5.cell? ⟨b, k * 23 + 22, none⟩ = some (.slice sa 0 sc) := (by rw [cell_of_row _ _ _ _ _ _ HH5.out, hsl]; simp [hbl2]); have HSl := Lib.hid hsl; clear hsl))
        have hke : (cs.map fun p => p.1.cells p.2)[k]? = some (c.cells rv) := by simp [HCs.out]
        have hm4' : Mod [] w1 w4 := hm2.trans_nil hm4
        have hkl : k < cs.length := (List.getElem?_eq_some_iff.1 HCs.out).1
        have ho5 := Own.write (H2.out.1.mod hm4' (by simp)) HCur4.out (k := k) (j := 22) (cs := [rv']) hke (by simp) (by rw [splice_one _ _ _ hbl2]; exact HH5.out)
        rw [Ck.spliceRefs HD.out rv rv' []] at ho5
        have row5 : Row w5 b (k * 23) (({ c with refs := [] } : Ck).cells rv') := ho5.row k _ (by simp [hkl])
        have hM5 := (H4.out.mod hm4' (by simp)).mod hm5 (by simpa using fun e => hbt.2 e.symm)
        have htb5 := hm5.heap (hm4'.heap H1.out (by simp)) (b := tb) (by simpa using fun e => hbt.1 e.symm)
        have hib5 := hm5.cell (hm4'.cell hib (by simp)) (by simp; omega)
        have c51 : w5.cell? ⟨tb, 1, none⟩ = some (.map (some mb)) := by rw [cell_of_row _ _ _ _ _ _ htb5]; rfl
        obtain ⟨cs1, hcs1⟩ : ∃ cs1, cs1 = cs.set k ({ c with refs := [] }, rv') := ⟨_, rfl⟩
        have ho51 : Own w5 45 23 (.slice (some ⟨b, 0, none⟩) m cap) (cs1.map fun p => p.1.cells p.2) := by rw [hcs1, List.map_set]; exact ho5
        have O5 := Lib.hid ho51
        clear ho51
        have HM5 := Lib.hid hM5
        have Htb5 := Lib.hid htb5
        clear ho5 hM5 htb5 hke
        have hid6 : ∀ p, cs1[k]? = some p → p.1.id = id := by
          intro p hp
          rw [hcs1, List.getElem?_set_self hkl] at hp
          cases hp
          exact HId.out
        have hoth6 : ∀ (j : Nat) p, j ≠ k → cs1[j]? = some p → p.1.id ≠ id := by
          intro j p hjk hp
          rw [hcs1, List.getElem?_set_ne (Ne.symm hjk)] at hp
          have h2 := cksOf_get hp
          rw [← HId.out]
          rcases Nat.lt_or_gt_of_ne hjk with h | h
          · exact Int.ne_of_lt (ids_lt H6.out h2 HK.out h)
          · exact Int.ne_of_gt (ids_lt H6.out HK.out h2 h)
        have hone6 : ∀ p ∈ cs1, p.2.oneCell' = true := by
          intro p hp
          rw [hcs1] at hp
          rcases List.mem_or_eq_of_mem_set hp with h | rfl
          · exact (H2.out.2 p h).one
          · exact HRv.out.one
        have HCs1 := Lib.hid hcs1
        clear hcs1
        have hne6 : w.heap.size ≠ b := by omega
        have Hid6 := Lib.hid hid6
        have Hoth6 := Lib.hid hoth6
        have Hone6 := Lib.hid hone6
        clear hid6 hoth6 hone6
        go_wp2_with (first | (go_at_call 66; refine (leave_any w5 tb mb b k { c with refs := [] } rv' M c51 row5 HD.out HM5.out).mono ?_; rintro e w6 ⟨rfl, hM6, hm6⟩; have c60 : w6.cell? ⟨tb, 0, none⟩ = some (.slice (some ⟨b, 0, none⟩) m cap) := hm6.cell (by rw [cell_of_row _ _ _ _ _ _ Htb5.out]; rfl) (by simpa using htm'); have HM6 := Lib.hid hM6; clear hM6; have ho6 := O5.out.mod hm6 (by simpa [Value.ownBlock] using hbt.2); have O6 := Lib.hid ho6; clear ho6; have hib6 := hm6.cell hib5 (by simp; omega)) | (go_at_call 101; refine (deleteFunc_any w6 b m cap w.heap.size k cs1 id O6.out hm65 Hone6.out hib6 hne6 hkm6 Hid6.out Hoth6.out).mono ?_; rintro e w7 ⟨rfl, ho7, hm7⟩; have htb7 := hm7.heap (hm6.heap Htb5.out (by simpa using htm')) (b := tb) (by simpa using fun e => hbt.1 e.symm); have Htb7 := Lib.hid htb7; have HO7 := Lib.hid ho7; clear ho7 htb7) | (refine wpList_store1 rfl 32 (.tmp 61) (.tmp 59) rfl infoCks tb 0 120 [.slice (some ⟨b, 0, none⟩) m cap, .map (some mb)] (.slice (some ⟨b, 0, none⟩) (m - 1) cap) rfl rfl Htb7.out rfl (by simp) ?_; intro w8 hh8 hm8; have HH8 := Lib.hid hh8; clear hh8))
        go_ret2
        have hmA : Mod [tb, mb, b] w1 w8 := (((hm4'.nil.trans hm5 (by simp)).trans hm6 (by simp)).trans hm7 (by simp)).trans hm8 (by simp)
        have ho8 := HO7.out.mod hm8 (by simpa [Value.ownBlock] using hbt.1)
        rw [HCs1.out, List.map_set, List.eraseIdx_set_eq] at ho8
        have hch := H2.out.erase hmA (HT.out.mod0 hm).parts.2.2.1 ho8
        have hM8 := (HM6.out.mod hm7 (by simpa using fun e => hbt.2 e.symm)).mod hm8 (by simpa using fun e => htm' e.symm)
        have hT8 : Tab w8 tb mb (.slice (some ⟨b, 0, none⟩) (m - 1) cap) ((cksOf cs).eraseIdx k) := ⟨_, mleave M c, HH8.out, hch, by simp [cksOf, map_eraseIdx], hM8, agree_erase H4.out.nodup H5.out H6.out HK.out, inv_erase H6.out k⟩
        refine ⟨.slice (some ⟨b, 0, none⟩) (m - 1) cap, by rw [HE.out]; rfl, by rw [HE.out]; exact hT8, hm.nil.trans hmA (by simp [foot, Value.ownBlock]), .inl rfl⟩
      · have hrp : 0 < r'.length := List.length_pos_iff.2 hemp
        rw [if_pos hemp] at e0
        have HE := Lib.hid e0
        have HEm := Lib.hid hemp
        clear e0 hemp hr'
        go_wp2_with (first | (go_at_call 63; refine (held_any w1 rv c.refs t HR.out HOk.out.refs (by omega)).mono ?_; rintro e w2 ⟨rfl, hm2⟩; have d22 := hm2.cell c22 (by simp)) | (go_at_call 100; refine (with_any w2 rv c.refs t (heldL c.refs t - n) (HR.out.mod0 hm2) HOk.out.refs HOk.out.refsNe (by omega) (by omega) (fun _ => HEx.out)).mono ?_; rintro e w4 ⟨rv', rfl, hrv', hm4, _⟩; rw [← HR'.out] at hrv'; have hcur4 := hm4.heap (hm2.heap (b := b) HCur.out (by simp)) (by simp); have HCur4 := Lib.hid hcur4; clear hcur4; have HRv := Lib.hid hrv') | (refine wpList_store1 rfl 43 (.tmp 43) (.tmp 41) rfl infoRefs b (k * 23 + 22) 45 cur rv' rfl rfl HCur4.out HRv.out.one hbl2 ?_; intro w5 hh5 hm5; have HH5 := Lib.hid hh5; clear hh5 hrv'; obtain ⟨sa, sc, hsl⟩ := HRv.out.sliceLen; have hv5 : w5.cell? ⟨b, k * 23 + 22, none⟩ = some (.slice sa r'.length sc) := (by rw [cell_of_row _ _ _ _ _ _ HH5.out, ← hsl]; simp [hbl2]); have HSl := Lib.hid hsl; clear hsl))
        go_ret2
        have hm4' : Mod [] w w4 := (hm.trans_nil hm2).trans_nil hm4
        have hT4 := HT.out.mod0 hm4'
        have hinv := inv_refs H6.out HK.out (t := t) (n := heldL c.refs t - n) ⟨ht0, ht1⟩ (by omega) (by rw [← HR'.out]; exact HEm.out) (by unfold most; omega)
        rw [← HR'.out] at hinv
        have hT5 := tab_refs (w := w) hT4 HK.out HCur4.out HH5.out hm5 HRv.out hinv rfl
        exact ⟨_, by rw [HE.out]; rfl, by rw [HE.out]; exact hT5, hm4'.nil.trans hm5 (by simp [foot, Value.ownBlock]), .inl rfl⟩

end Go.Proofs.Ytknkifanpppglaa

/- Walks: slices.Insert of one chunk. -/
namespace Go.Proofs.Ytknkifanpppglaa
open Go.RowKit

theorem insert_rows2 {α : Type} (R : List α) (i L : Nat) (e : α) (hi : i < L) (hL : L + 1 ≤ R.length) :
    (splice (splice R (i + 1) ((R.drop i).take (L - i))) i [e]).take (L + 1) = (R.take L).take i ++ e :: (R.take L).drop i := by
  have hd : ((R.drop i).take (L - i)).length = L - i := by rw [List.length_take, List.length_drop]; omega
  have h1 : (R.take (i + 1)).length = i + 1 := by rw [List.length_take]; omega
  have h2 : splice R (i + 1) ((R.drop i).take (L - i)) = R.take (i + 1) ++ ((R.drop i).take (L - i) ++ R.drop (L + 1)) := by
    unfold splice; rw [hd, show i + 1 + (L - i) = L + 1 by omega]
  have h3 : (R.take i).length = i := by rw [List.length_take]; omega
  have h4 : splice (splice R (i + 1) ((R.drop i).take (L - i))) i [e] = R.take i ++ (e :: ((R.drop i).take (L - i) ++ R.drop (L + 1))) := by
    rw [h2]
    unfold splice
    rw [List.take_append_of_le_length (by omega), List.take_take, show min i (i + 1) = i by omega, List.length_singleton, List.drop_append, List.drop_of_length_le (by omega), h1, Nat.sub_self]
    simp
  have h5 : (R.take L).drop i = (R.drop i).take (L - i) := by rw [List.drop_take]
  rw [h4, h5, List.take_take, show min i L = i by omega]
  have e6 : R.take i ++ (e :: ((R.drop i).take (L - i) ++ R.drop (L + 1))) = (R.take i ++ e :: (R.drop i).take (L - i)) ++ R.drop (L + 1) := by simp
  rw [e6]
  exact List.take_left' (by simp only [List.length_append, List.length_cons, hd, h3]; omega)

theorem run_copy_part {P : Program} {t e size bytes : Nat} (T : STy P t e size bytes) (w : World) (ty g i dLen dCap : Nat) (x : Value) (R ns : List (List Value)) (hb : Blk w g e size R) (hx : Src w size x ns)
    (h1 : ∀ r ∈ ns.take (Nat.min ns.length dLen), ∀ u ∈ r, u.oneCell' = true) (hfit : i + Nat.min ns.length dLen ≤ R.length) :
    ∃ w', (Builtin.copy_ #[t, t] ty #[.slice (some ⟨g, i * size, none⟩) dLen dCap, x]).run P w = .ok (goInt (Nat.min ns.length dLen)) w' ∧ Blk w' g e size (splice R i (ns.take (Nat.min ns.length dLen))) ∧ Mod [g] w w' := by
  obtain ⟨inf, z, hi, hz, hs, hby, hzs⟩ := T.info
  have hlen : ((ns.take (Nat.min ns.length dLen)).length) = Nat.min ns.length dLen := by rw [List.length_take]; exact Nat.min_eq_left (Nat.min_le_left _ _)
  have hrows : ∀ r ∈ ns.take (Nat.min ns.length dLen), r.length = size := fun r hr => hx.1 r (List.mem_of_mem_take hr)
  have hfl := flatten_length hrows
  rw [hlen] at hfl
  have h1' : ∀ u ∈ (ns.take (Nat.min ns.length dLen)).flatten, u.oneCell' = true := by
    intro u hu
    obtain ⟨r, hr, hur⟩ := List.mem_flatten.1 hu
    exact h1 r hr u hur
  have hR := flatten_length hb.1
  have hfit2 : i * size + (ns.take (Nat.min ns.length dLen)).flatten.length ≤ R.flatten.length := by
    rw [hfl, hR, ← Nat.add_mul]; exact Nat.mul_le_mul_right _ hfit
  have hst := run_storeCells_at (P := P) g (i * size) e (ns.take (Nat.min ns.length dLen)).flatten 0 R.flatten.toArray w hb.2 (by simpa using hfit2) h1'
  have hlo : (Builtin.lenOf x).run P w = .ok ns.length w := by
    rcases hx.2 with ⟨c, rfl, rfl⟩ | ⟨b, off, c, rfl, _⟩ <;> simp [Builtin.lenOf]
  have hfc : (Builtin.firstCells size (Nat.min ns.length dLen) x).run P w = .ok (ns.take (Nat.min ns.length dLen)).flatten.toArray w := by
    rcases hx.2 with ⟨c, rfl, rfl⟩ | ⟨b, off, c, rfl, hr⟩
    · simp [Builtin.firstCells]
    · refine run_firstCells_some w size (Nat.min ns.length dLen) ⟨b, off, none⟩ ns.length c _ hfl (fun j v hv => ?_)
      obtain ⟨a, n', c', e1, e2⟩ := hx.take (Nat.min ns.length dLen) j v hv
      cases e1
      exact e2
  refine ⟨w.setRow g (splice R i (ns.take (Nat.min ns.length dLen))).flatten.toArray, ?_, ⟨?_, setRow_heap w g _ _ e _ hb.2⟩, (Mod.refl _ _).setRow _ _ (by simp)⟩
  · rw [← splice_flatten i hb.1 hrows]
    simp only [Builtin.copy_]
    simp [run_underlying T.u, sizeOf, typeInfo, hi, hs, hlo, hfc]
    have e1 : i * size + 0 = i * size := rfl
    simpa [splice] using congrArg (fun r => Result.andThen r (fun _ w' => Result.ok (goInt (Nat.min ns.length dLen)) w')) hst
  · intro r hr
    rcases mem_splice hr with hr | hr
    · exact hb.1 r hr
    · exact hrows r hr

theorem wpList_copy_part {P : Program} {t e size bytes : Nat} (T : STy P t e size bytes) {ops : Array Oper} {rest : List Oper} {o : Oper} {a : Act} {w : World} {Q : Exit → Act → World → Prop} (hw : Region.wanted o (yielded ops a.tmps) = true) (d s : Operand)
    (hop : o.op = .call { callee := .builtin .copy, args := #[d, s], argTypes := #[t, t] }) (g i dLen dCap : Nat) (x : Value) (hd : a.eval d = .slice (some ⟨g, i * size, none⟩) dLen dCap) (hs : a.eval s = x)
    (R ns : List (List Value)) (hb : Blk w g e size R) (hx : Src w size x ns) (h1 : ∀ r ∈ ns.take (Nat.min ns.length dLen), ∀ u ∈ r, u.oneCell' = true) (hfit : i + Nat.min ns.length dLen ≤ R.length)
    (h : ∀ w', Blk w' g e size (splice R i (ns.take (Nat.min ns.length dLen))) → Mod [g] w w' → wpList P ops Q rest (a.put o.dst (goInt (Nat.min ns.length dLen))) w') : wpList P ops Q (o :: rest) a w :=
  wpList_wanted hw fun _ hK => by
    obtain ⟨w', hr, h2, h3⟩ := run_copy_part T w o.type g i dLen dCap x R ns hb hx h1 hfit
    unfold Oper.wp execOp
    simp only [hop, resolve, invoke, builtin, Sem.run_bind, Sem.run_pure, Result.andThen_ok, List.map_toArray, List.map_cons, List.map_nil, hd, hs, hr]
    exact hK _ _ (h w' h2 h3)

theorem run_size_of {P : Program} {ty n : Nat} (h : (P.info? ty).map (·.size) = some n) : ∀ w, (sizeOf ty).run P w = .ok n w := by
  intro w
  cases hq : P.info? ty with
  | none => simp [hq] at h
  | some i =>
    have hs : i.size = n := by simpa [hq] using h
    simp [sizeOf, typeInfo, Sem.run_bind, hq, hs]

def InsOwn (v : Value) (es' : List (List Value)) (w : World) (e : Ending) (w' : World) : Prop :=
  ∃ v', e = .returned v' ∧ Own w' 45 23 v' es' ∧ Mod v.ownBlock.toList w w' ∧ FreshOr w v v'

set_option maxRecDepth 100000 in
set_option maxHeartbeats 2000000 in
theorem insertC_end (w : World) (v : Value) (i vb : Nat) (es : List (List Value)) (e : List Value) (hi : i = es.length) (hmx : es.length ≤ 65536) (hs : Own w 45 23 v es) (hv : w.heap[vb]? = some (.cells e.toArray 45 (0, 0)))
    (he : e.length = 23) (h2 : ∀ u ∈ e, u.oneCell' = true) :
    Calls Try.prog 97 #[v, .int .i64 i, .slice (some ⟨vb, 0, none⟩) 1 1] w (InsOwn v (es ++ [e]) w) := by
  have HS := Lib.hid hs
  have HV := Lib.hid hv
  have HO2 := Lib.hid h2
  have HI := Lib.hid hi
  have hsrc : Src w 23 (.slice (some ⟨vb, 0, none⟩) 1 1) [e] := Src.one he (Row.of_heap hv)
  have HSrc := Lib.hid hsrc
  rcases hs.shape with ⟨rfl, rfl⟩ | ⟨b, cap, cur, rfl, hb, hc, hm, _, _, _⟩
  · obtain rfl : i = 0 := by simpa using hi
    clear hs hv h2 hi hsrc
    go_enter Try.func97, Try.ntmps97
    go_wp2_with (at_builtin; refine wpList_append_Own sty_ck rfl (.tmp 23) (.tmp 24) rfl (.slice none 0 0) (.slice (some ⟨vb, 0, none⟩) 1 1) rfl rfl [] [e] HS.out HSrc.out (by simpa using HO2.out) (by simp [maxLen]) (by simp) ?_; intro v' w' ho hm hf)
    go_ret
    exact ⟨_, rfl, ho, hm, hf⟩
  · have hn : (i : Int) = es.length := by omega
    obtain ⟨L, hL⟩ : ∃ L, L = es.length := ⟨_, rfl⟩
    rw [← hL] at hi hc hn hmx HS ⊢
    subst hi
    have HL := Lib.hid hL
    clear hs hv h2 hsrc hL hn
    go_enter Try.func97, Try.ntmps97
    go_wp2_with (at_builtin; refine wpList_append_Own sty_ck rfl (.tmp 23) (.tmp 24) rfl (.slice (some ⟨b, 0, none⟩) _ cap) (.slice (some ⟨vb, 0, none⟩) 1 1) rfl rfl es [e] HS.out HSrc.out (by simpa using HO2.out) (by have := HL.out; simp [maxLen]; omega) (by have := HL.out; simp; omega) ?_; intro v' w' ho hm hf)
    all_goals
      go_ret
      exact ⟨_, rfl, ho, hm, hf⟩

set_option maxRecDepth 100000 in
set_option maxHeartbeats 2000000 in
theorem insertC_grow (w : World) (b L i vb : Nat) (es : List (List Value)) (e : List Value) (hL : L = es.length) (hlt : i < L) (hmx : L ≤ 65536) (hs : Src w 23 (.slice (some ⟨b, 0, none⟩) L L) es) (he : e.length = 23) (hv : Row w vb 0 e)
    (h1 : ∀ r ∈ es, ∀ u ∈ r, u.oneCell' = true) (h2 : ∀ u ∈ e, u.oneCell' = true) :
    Calls Try.prog 97 #[.slice (some ⟨b, 0, none⟩) L L, .int .i64 i, .slice (some ⟨vb, 0, none⟩) 1 1] w (InsOwn (.slice (some ⟨b, 0, none⟩) L L) (es.take i ++ e :: es.drop i) w) := by
  have HL := Lib.hid hL
  have HS := Lib.hid hs
  have HE := Lib.hid he
  have HV := Lib.hid hv
  have HO1 := Lib.hid h1
  have HO2 := Lib.hid h2
  clear hL hs he hv h1 h2
  have hiL : ¬ i = L := by omega
  have hi : i ≤ L := by omega
  have hbl : b < w.heap.size := HS.out.lt (by omega)
  have hb1 : ((i : Int) == L) = false := by simp; omega
  have hcast : ((L : Int) + 1 - i) = ((L + 1 - i : Nat) : Int) := by omega
  have HC := Lib.hid hcast
  clear hcast
  go_enter Try.func97, Try.ntmps97
  go_wp2_with (first | (refine wpList_append_zeros (zrow := zeroCells) sty_ck Try.underlying3 zrow_ck rfl (.tmp 34) (.tmp 39) rfl (.slice (some ⟨b, 0, none⟩) i L) (some ⟨b, 0, none⟩) i L (L + 1 - i) rfl rfl (int_eq HC.out) (es.take i) (by rw [List.length_take, ← HL.out]; omega) (HS.out.takeS i L (by omega)) (L + 1) (by omega) (by omega) (by omega) (by omega) (by simp [maxLen]; omega) ?_; intro w1 k hblk hm hmax; have HB := Lib.hid hblk; clear hblk; have hvb := World.lt_of_row HV.out HE.out) | (refine wpList_copy_blk sty_ck rfl (.tmp 43) (.tmp 44) rfl w.heap.size i _ _ (.slice (some ⟨vb, 0, none⟩) 1 1) rfl rfl _ [e] HB.out ((Src.one HE.out HV.out).mod hm (by simp)) (by simpa using HO2.out) (Nat.le_trans (Nat.add_le_add_left (Nat.min_le_left _ _) _) (by have := HL.out; simp; omega)) ?_; intro w2 hblk2 hm2; have HB2 := Lib.hid hblk2; clear hblk2))
  have hw5 : ¬ L = i := fun e => hiL e.symm
  have hw6 : ¬ L + 1 + k = i + 1 := by omega
  have hw1 : IntKind.i64.wrap ((i : Int) + 1) = (i : Int) + 1 := IntWalk.i64_in _ (by omega)
  have hw2 : (0 : Int) ≤ (i : Int) + 1 := by omega
  have hw3 : ((i : Int) + 1).toNat = i + 1 := by omega
  have hw4 : (i : Int) + 1 ≤ ((L : Int) + 1) := by omega
  go_still_tail 8, (by kernel_rfl)
  have hlen : (splice (es.take i ++ List.replicate (L + 1 - i + k) zeroCells) i (List.take (Nat.min [e].length (L + 1 - i)) [e])).length = L + 1 + k := by
    have := HL.out
    have e1 : Nat.min [e].length (L + 1 - i) = 1 := Nat.min_eq_left (by simp; omega)
    rw [e1, length_splice _ _ _ (by simp; omega)]; simp; omega
  go_wp2_with (refine wpList_copy_blk sty_ck rfl (.tmp 50) (.tmp 53) rfl w.heap.size (i + 1) _ _ (.slice (some ⟨b, i * 23, none⟩) (L - i) (L - i)) rfl rfl _ (es.drop i) (HB2.out.mod ((Mod.refl [] w2).drew) (by simp)) ((((by simpa using HS.out.dropS i (L - i) (by omega) : Src w 23 (.slice (some ⟨b, i * 23, none⟩) (L - i) (L - i)) (es.drop i)).mod hm (by simp)).mod hm2 (by simp [Value.ownBlock]; omega)).mod ((Mod.refl [] w2).drew) (by simp)) (fun r hr => HO1.out r (List.mem_of_mem_drop hr)) (Nat.le_trans (Nat.add_le_add_left (Nat.min_le_right _ _) _) (by rw [hlen]; omega)) ?_; intro w3 hblk3 hm3; have HB3 := Lib.hid hblk3; clear hblk3)
  go_ret
  have hb3 := HB3.out
  have e1 : Nat.min [e].length (L + 1 - i) = 1 := Nat.min_eq_left (by simp; omega)
  have e2 : Nat.min (es.drop i).length (L - i) = (es.drop i).length := Nat.min_eq_left (by rw [List.length_drop, ← HL.out]; omega)
  rw [e1, e2, List.take_of_length_le (Nat.le_refl _), show List.take 1 [e] = [e] from rfl] at hb3
  have hL := HL.out
  subst hL
  have hlen2 : (splice (splice (es.take i ++ List.replicate (es.length + 1 - i + k) zeroCells) i [e]) (i + 1) (es.drop i)).length = es.length + 1 + k := by
    have e3 : (splice (es.take i ++ List.replicate (es.length + 1 - i + k) zeroCells) i [e]).length = es.length + 1 + k := by
      rw [length_splice _ _ _ (by simp; omega)]; simp; omega
    rw [length_splice _ _ _ (by rw [e3]; simp; omega), e3]
  have hown := hb3.own (es.length + 1) (by omega) (by omega) _ (insert_rows es i k e _ hlt)
  rw [hlen2] at hown
  have hmm : Mod [] w w3 := ((hm.trans hm2 (by simp)).drew).trans hm3 (by simp)
  exact ⟨_, rfl, hown, hmm.nil, .inr ⟨w.heap.size, rfl, Nat.le_refl _⟩⟩

set_option maxRecDepth 100000 in
set_option maxHeartbeats 2000000 in
theorem insertC_in (w : World) (b L cap i vb : Nat) (es : List (List Value)) (e : List Value) (hL : L = es.length) (hlt : i < L) (hcap : L < cap) (hmx : L ≤ 65536) (hs : Own w 45 23 (.slice (some ⟨b, 0, none⟩) L cap) es) (hv : w.heap[vb]? = some (.cells e.toArray 45 (0, 0)))
    (he : e.length = 23) (h1 : ∀ r ∈ es, ∀ u ∈ r, u.oneCell' = true) (h2 : ∀ u ∈ e, u.oneCell' = true) (hne : vb ≠ b) :
    Calls Try.prog 97 #[.slice (some ⟨b, 0, none⟩) L cap, .int .i64 i, .slice (some ⟨vb, 0, none⟩) 1 1] w (InsOwn (.slice (some ⟨b, 0, none⟩) L cap) (es.take i ++ e :: es.drop i) w) := by
  obtain ⟨R, hblk, hRl, hRt, hnl, hnc, hcm⟩ := hs.blk
  have hfz := frozen_of_row w vb 0 _ _ hv
  have hfe := frozen_of_row w vb 23 _ _ hv
  have hsa : w.shape? vb = some (45, 23) := by simp [World.shape?, hv, he]
  have hsb : w.shape? b = some (45, R.flatten.length) := by simp [World.shape?, hblk.2]
  have hk0 : R.flatten.length ≠ 0 := by rw [hblk.len]; omega
  have hov : ∀ lb cb, (callFunc 124 #[.slice (some ⟨vb, 0, none⟩) 1 1, .slice (some ⟨b, (i + 1) * 23, none⟩) lb cb]).run Try.prog w = .ok (.value (.bool false)) w := fun lb cb => by
    rw [run_callFunc_extern Try.func124 (by kernel_rfl) (by kernel_rfl) (by kernel_rfl) (e := Extern.SlicesOverlaps.overlaps #[32, 32] #[4]) (by kernel_rfl),
      Lib.run_overlaps_apart w 32 4 45 Try.underlying32 23 (run_size_of info45) ⟨vb, 0, none⟩ ⟨b, (i + 1) * 23, none⟩ 1 1 lb cb hne 45 45 23 _ hsa hsb hk0 hfz hfe]
    rfl
  have HL := Lib.hid hL
  have HB := Lib.hid hblk
  have HRl := Lib.hid hRl
  have HRt := Lib.hid hRt
  have HV := Lib.hid hv
  have HO1 := Lib.hid h1
  have HO2 := Lib.hid h2
  have HS := Lib.hid hs
  have HE := Lib.hid he
  have hsrc : Src w 23 (.slice (some ⟨vb, 0, none⟩) 1 1) [e] := Src.one he (Row.of_heap hv)
  have HSrc := Lib.hid hsrc
  have hiL : ¬ i = L := by omega
  have hi : i ≤ L := by omega
  have hb1 : ((i : Int) == L) = false := by simp; omega
  have hw1 : IntKind.i64.wrap ((L : Int) + 1) = (L : Int) + 1 := IntWalk.i64_in _ (by omega)
  have hw2 : (0 : Int) ≤ (L : Int) + 1 := by omega
  have hw3 : ((L : Int) + 1).toNat = L + 1 := by omega
  have hw4 : (L : Int) + 1 ≤ (cap : Int) := by omega
  have hv1 : IntKind.i64.wrap ((i : Int) + 1) = (i : Int) + 1 := IntWalk.i64_in _ (by omega)
  have hv2 : (0 : Int) ≤ (i : Int) + 1 := by omega
  have hv3 : ((i : Int) + 1).toNat = i + 1 := by omega
  have hv4 : (i : Int) + 1 ≤ (L : Int) + 1 := by omega
  have hc1 : ¬ cap = i + 1 := by omega
  have hc2 : ¬ cap = i := by omega
  clear hL hblk hRl hRt hv h1 h2 hs he hsrc hnl hnc hfz hfe hsa hsb hk0
  go_enter Try.func97, Try.ntmps97
  have hi2 : i ≤ L + 1 := by omega
  have hi3 : (i : Int) ≤ (L : Int) + 1 := by omega
  have hns : ((R.drop i).take (L + 1 - i)).length = L + 1 - i := by have := HRl.out; rw [List.length_take, List.length_drop]; omega
  have hmin : Nat.min ((R.drop i).take (L + 1 - i)).length (L - i) = L - i := by rw [hns]; exact Nat.min_eq_right (by omega)
  have htk : ((R.drop i).take (L + 1 - i)).take (L - i) = (R.drop i).take (L - i) := by rw [List.take_take, show min (L - i) (L + 1 - i) = L - i by omega]
  have hone : ∀ r ∈ ((R.drop i).take (L + 1 - i)).take (Nat.min ((R.drop i).take (L + 1 - i)).length (L - i)), ∀ u ∈ r, u.oneCell' = true := by
    rw [hmin, htk, ← List.drop_take, HRt.out]
    exact fun r hr => HO1.out r (List.mem_of_mem_drop hr)
  have hl2 : (splice R (i + 1) ((R.drop i).take (L - i))).length = cap := by
    rw [length_splice _ _ _ (by rw [← htk, List.length_take, hns]; have := HRl.out; omega)]; exact HRl.out
  have hfit : i + Nat.min [e].length (L + 1 - i) ≤ (splice R (i + 1) ((R.drop i).take (L - i))).length := by
    rw [hl2]; exact Nat.le_trans (Nat.add_le_add_left (Nat.min_le_left _ _) _) (by simp; omega)
  have HL2 := Lib.hid hl2
  have HFit := Lib.hid hfit
  have HNs := Lib.hid hns
  have HMin := Lib.hid hmin
  have HTk := Lib.hid htk
  have HOne := Lib.hid hone
  clear hns hmin htk hone hl2 hfit
  go_wp2
  go_still_tail 8, (by kernel_rfl)
  go_wp2_with (first | (refine wpList_copy_part sty_ck rfl (.tmp 73) (.tmp 76) rfl b (i + 1) (L - i) _ (.slice (some ⟨b, i * 23, none⟩) (L + 1 - i) (cap - i)) rfl rfl R ((R.drop i).take (L + 1 - i)) (HB.out.mod ((Mod.refl [] w).drew) (by simp)) ((HB.out.mod ((Mod.refl [] w).drew) (by simp)).src i (L + 1 - i) (cap - i) _ rfl HNs.out.symm) HOne.out (by rw [HMin.out, HRl.out]; omega) ?_; intro w2 hb2 hm2; rw [HMin.out, HTk.out] at hb2; have HB2 := Lib.hid hb2; clear hb2) | (refine wpList_copy_blk sty_ck rfl (.tmp 80) (.tmp 81) rfl b i (L + 1 - i) _ (.slice (some ⟨vb, 0, none⟩) 1 1) rfl rfl _ [e] HB2.out ((HSrc.out.mod ((Mod.refl [] w).drew) (by simp)).mod hm2 (by simpa [Value.ownBlock] using hne)) (by simpa using HO2.out) HFit.out ?_; intro w3 hb3 hm3; have HB3 := Lib.hid hb3; clear hb3))
  go_ret
  have hb3 := HB3.out
  rw [show Nat.min [e].length (L + 1 - i) = 1 from Nat.min_eq_left (by simp; omega), show List.take 1 [e] = [e] from rfl] at hb3
  have hl3 : (splice (splice R (i + 1) ((R.drop i).take (L - i))) i [e]).length = cap := by
    rw [length_splice _ _ _ (by rw [HL2.out]; simp; omega)]; exact HL2.out
  have hown := hb3.own (L + 1) (by rw [hl3]; omega) (by rw [hl3]; exact hcm) _ (insert_rows2 R i L e hlt (by rw [HRl.out]; omega))
  rw [hl3, HRt.out] at hown
  exact ⟨_, rfl, hown, (((Mod.refl _ w).drew.trans hm2 (by simp [Value.ownBlock])).trans hm3 (by simp [Value.ownBlock])), .inl rfl⟩

theorem insertC_any (w : World) (v : Value) (i vb : Nat) (es : List (List Value)) (e : List Value) (hi : i ≤ es.length) (hmx : es.length ≤ 65536) (hs : Own w 45 23 v es) (hv : w.heap[vb]? = some (.cells e.toArray 45 (0, 0)))
    (he : e.length = 23) (h1 : ∀ r ∈ es, ∀ u ∈ r, u.oneCell' = true) (h2 : ∀ u ∈ e, u.oneCell' = true) (hne : ∀ b, v.ownBlock = some b → vb ≠ b) :
    Calls Try.prog 97 #[v, .int .i64 i, .slice (some ⟨vb, 0, none⟩) 1 1] w (InsOwn v (es.take i ++ e :: es.drop i) w) := by
  by_cases h : i = es.length
  · have := insertC_end w v i vb es e h hmx hs hv he h2
    rwa [h, List.take_of_length_le (Nat.le_refl _), List.drop_of_length_le (Nat.le_refl _), ← h]
  · rcases hs.shape with ⟨rfl, rfl⟩ | ⟨b, cap, cur, rfl, hb, hc, hm, _, _, _⟩
    · simp at hi h; omega
    · by_cases hcap : es.length < cap
      · exact insertC_in w b es.length cap i vb es e rfl (by omega) hcap hmx hs hv he h1 h2 (hne b rfl)
      · obtain rfl : cap = es.length := by omega
        exact insertC_grow w b es.length i vb es e rfl (by omega) hmx hs.src he (Row.of_heap hv) h1 h2

end Go.Proofs.Ytknkifanpppglaa

/- Walks: sort.Search with Add's closure. -/
namespace Go.Proofs.Ytknkifanpppglaa
open Go.RowKit

theorem slotFrom_le : ∀ (l : List Ck) (k : Nat), k ≤ slotFrom l k ∧ slotFrom l k ≤ k + l.length
  | [], k => by simp [slotFrom]
  | c :: r, k => by
    unfold slotFrom
    split
    · have := slotFrom_le r (k + 1); simp; omega
    · simp
theorem slot_le (l : List Ck) : slot l ≤ l.length := by have := (slotFrom_le l 0).2; unfold slot; omega

theorem slotFrom_lt : ∀ (l : List Ck) (k j : Nat) (c : Ck), k + j < slotFrom l k → l[j]? = some c → c.id = ((k + j : Nat) : Int) + 1
  | [], k, j, c, h, hc => by simp at hc
  | c0 :: r, k, 0, c, h, hc => by
    unfold slotFrom at h
    split at h
    · simp at hc; subst hc; simpa using by assumption
    · omega
  | c0 :: r, k, j + 1, c, h, hc => by
    unfold slotFrom at h
    split at h
    · have := slotFrom_lt r (k + 1) j c (by omega) (by simpa using hc)
      rw [this]; congr 1; omega
    · omega
theorem slot_lt {l : List Ck} {j : Nat} {c : Ck} (h : j < slot l) (hc : l[j]? = some c) : c.id = (j : Int) + 1 := by
  have := slotFrom_lt l 0 j c (by unfold slot at h; omega) hc
  simpa using this

theorem slotFrom_at : ∀ (l : List Ck) (k : Nat) (c : Ck), l[slotFrom l k - k]? = some c → c.id ≠ (slotFrom l k : Int) + 1
  | [], k, c, h => by simp at h
  | c0 :: r, k, c, h => by
    unfold slotFrom at h ⊢
    split
    · rename_i he
      rw [if_pos he] at h
      have := (slotFrom_le r (k + 1)).1
      have e : slotFrom r (k + 1) - k = (slotFrom r (k + 1) - (k + 1)) + 1 := by omega
      rw [e] at h
      exact slotFrom_at r (k + 1) c (by simpa using h)
    · rename_i he
      rw [if_neg he] at h
      simp at h; subst h; exact he
theorem slot_at {l : List Ck} (h : Inv l) {c : Ck} (hc : l[slot l]? = some c) : (slot l : Int) + 1 < c.id := by
  have h1 := slotFrom_at l 0 c (by simpa [slot] using hc)
  have h2 := ids_ge h _ _ hc
  unfold slot at *
  omega
theorem slot_ge {l : List Ck} (h : Inv l) {j : Nat} {c : Ck} (hj : slot l ≤ j) (hc : l[j]? = some c) : (j : Int) + 1 < c.id := by
  induction j generalizing c with
  | zero => exact slot_at h (by rw [show slot l = 0 by omega]; exact hc) |> fun x => by rw [show slot l = 0 by omega] at x; exact x
  | succ j ih =>
    by_cases he : slot l = j + 1
    · have := slot_at h (c := c) (by rw [he]; exact hc); rw [he] at this; exact this
    · have hlt : j < l.length := by have := (List.getElem?_eq_some_iff.1 hc).1; omega
      have h1 := ih (c := l[j]) (by omega) (List.getElem?_eq_getElem hlt)
      have h2 := ids_lt h (List.getElem?_eq_getElem hlt) hc (Nat.lt_succ_self j)
      omega

theorem add1_any (w : World) (bb tb b n cap i : Nat) (id : Int) (hbb : w.cell? ⟨bb, 0, none⟩ = some (.pointer (some ⟨tb, 0, none⟩))) (htb : w.cell? ⟨tb, 0, none⟩ = some (.slice (some ⟨b, 0, none⟩) n cap)) (hin : i < n) (hi : i ≤ 65536)
    (hid : w.cell? ⟨b, i * 23, none⟩ = some (.int .i64 id)) :
    Calls Try.prog 96 #[.int .i64 i, .pointer (some ⟨bb, 0, none⟩)] w fun e w' => e = .returned (.bool (decide ((i : Int) + 1 < id))) ∧ Mod [] w w' := by
  have hw : IntKind.i64.wrap ((i : Int) + 1) = (i : Int) + 1 := IntWalk.i64_in _ (by omega)
  go_enter Try.func96, Try.ntmps96
  go_wp2
  go_ret
  exact ⟨rfl, Mod.refl _ _⟩

set_option maxHeartbeats 1000000 in
theorem search_any (w : World) (bb tb b cap n : Nat) (cs : List (Ck × Value)) (hn : n = cs.length) (hlen : n ≤ 65536) (hrow : ∀ k p, cs[k]? = some p → Row w b (k * 23) (p.1.cells p.2)) (hI : Inv (cksOf cs))
    (hbb : w.cell? ⟨bb, 0, none⟩ = some (.pointer (some ⟨tb, 0, none⟩))) (htb : w.cell? ⟨tb, 0, none⟩ = some (.slice (some ⟨b, 0, none⟩) n cap)) :
    Calls Try.prog 95 #[.int .i64 n, .func (.func 96) #[] #[.pointer (some ⟨bb, 0, none⟩)]] w fun e w' => e = .returned (.int .i64 (slot (cksOf cs))) ∧ Mod [] w w' := by
  have hk : slot (cksOf cs) ≤ n := by have := slot_le (cksOf cs); rw [cksOf_len] at this; omega
  obtain ⟨k, hks⟩ : ∃ k, k = slot (cksOf cs) := ⟨_, rfl⟩
  have hlo : ∀ (j : Nat) p, j < k → cs[j]? = some p → p.1.id = (j : Int) + 1 := fun j p hj hp => slot_lt (by omega) (cksOf_get hp)
  have hhi : ∀ (j : Nat) p, k ≤ j → cs[j]? = some p → (j : Int) + 1 < p.1.id := fun j p hj hp => slot_ge hI (by omega) (cksOf_get hp)
  rw [← hks] at hk ⊢
  have HN := Lib.hid hn
  have HR := Lib.hid hrow
  have HLo := Lib.hid hlo
  have HHi := Lib.hid hhi
  clear hn hrow hlo hhi hI hks
  go_enter Try.func95, Try.ntmps95
  go_wp2
  go_loopw [5, 6] (fun s5 s6 wr => ∃ lo hi : Nat, s5 = .int .i64 lo ∧ s6 = .int .i64 hi ∧ lo ≤ k ∧ k ≤ hi ∧ hi ≤ n ∧ Mod [] w wr) (fun s5 s6 _ => (intOf s6 - intOf s5).toNat)
  case atStart => exact ⟨0, n, rfl, rfl, Nat.zero_le _, hk, Nat.le_refl _, Mod.refl _ _⟩
  case round =>
    obtain ⟨lo, hi, rfl, rfl, h1, h2, h3, hm⟩ := hrel
    have hbb' := hm.cell hbb (by simp)
    have htb' := hm.cell htb (by simp)
    by_cases hlh : lo < hi
    · obtain ⟨p, hp⟩ : ∃ p, cs[(lo + hi) / 2]? = some p := ⟨_, List.getElem?_eq_getElem (by have := HN.out; omega)⟩
      have hc0 := ((HR.out _ p hp).mod hm (by simp)).at0 _ (Ck.c0 p.1 p.2)
      by_cases hc : (lo + hi) / 2 < k
      · have hd : decide ((((lo + hi) / 2 : Nat) : Int) + 1 < p.1.id) = false := by rw [HLo.out _ p hc hp]; simp
        have HD := Lib.hid hd
        clear hp hd
        go_wp2_with (first | (go_at_call 96; refine (add1_any _ bb tb b n cap ((lo + hi) / 2) p.1.id hbb' htb' (by omega) (by omega) hc0).mono ?_; rintro e w' ⟨rfl, hm1⟩; rw [HD.out]))
        go_roundw
        case rel => exact ⟨(lo + hi) / 2 + 1, hi, by go_num, rfl, by omega, h2, h3, hm.trans_nil hm1⟩
        case measure => simp [intOf]; omega
      · have hd : decide ((((lo + hi) / 2 : Nat) : Int) + 1 < p.1.id) = true := by have := HHi.out _ p (by omega) hp; simp; omega
        have HD := Lib.hid hd
        clear hp hd
        go_wp2_with (first | (go_at_call 96; refine (add1_any _ bb tb b n cap ((lo + hi) / 2) p.1.id hbb' htb' (by omega) (by omega) hc0).mono ?_; rintro e w' ⟨rfl, hm1⟩; rw [HD.out]))
        go_roundw
        case rel => exact ⟨lo, (lo + hi) / 2, rfl, by go_num, h1, by omega, by omega, hm.trans_nil hm1⟩
        case measure => simp [intOf]; omega
    · obtain rfl : lo = hi := by omega
      obtain rfl : lo = k := by omega
      go_wp2
      go_ret
      exact ⟨rfl, hm⟩

theorem search_nil (w : World) (bb : Nat) :
    Calls Try.prog 95 #[.int .i64 0, .func (.func 96) #[] #[.pointer (some ⟨bb, 0, none⟩)]] w fun e w' => e = .returned (.int .i64 0) ∧ Mod [] w w' := by
  go_enter Try.func95, Try.ntmps95
  go_wp2
  refine wp_loop_rounds 1 ?_
  rw [rounds_succ]
  go_wp2
  go_ret
  exact ⟨rfl, Mod.refl _ _⟩

end Go.Proofs.Ytknkifanpppglaa

/- The plain law of Add; a chunk is built. -/
namespace Go.Proofs.Ytknkifanpppglaa
open Go.RowKit

def newCk (l : List Ck) (d : List Int) (p : Int) (u : U3) (t : Int) : Ck := ⟨(slot l : Int) + 1, d, p, u, false, [(t, 1)]⟩
def putCk (l : List Ck) (k : Nat) (c : Ck) : List Ck := l.take k ++ c :: l.drop k

theorem mem_put {l : List Ck} {k : Nat} {c x : Ck} : x ∈ putCk l k c ↔ x = c ∨ x ∈ l := by
  unfold putCk
  constructor
  · intro h
    rcases List.mem_append.1 h with h | h
    · exact .inr (List.mem_of_mem_take h)
    · rcases List.mem_cons.1 h with h | h
      · exact .inl h
      · exact .inr (List.mem_of_mem_drop h)
  · rintro (rfl | h)
    · simp
    · rw [← List.take_append_drop k l] at h
      rcases List.mem_append.1 h with h | h
      · exact List.mem_append_left _ h
      · exact List.mem_append_right _ (List.mem_cons_of_mem _ h)

theorem atU_none {l : List Ck} {u : U3} (h : atU l u = none) : ∀ c ∈ l, c.lost = false → c.pos ≠ u := by
  intro c hc hl hp
  unfold atU at h
  rw [Option.map_eq_none_iff, List.find?_eq_none] at h
  have := h c hc
  simp [hl, hp] at this

theorem inv_add {l : List Ck} (h : Inv l) {d : List Int} {p : Int} {u : U3} {t : Int} (hu : u.ok = true) (ht : tenB t = true) (hat : atU l u = none) (hl : l.length < 65536) (hd : d.length = 16) :
    Inv (putCk l (slot l) (newCk l d p u t)) := by
  have hs := slot_le l
  have h0 : 0 ≤ t ∧ t < 16 := by simpa [tenB] using ht
  have hlo : ∀ a ∈ l.take (slot l), a.id < (slot l : Int) + 1 := by
    intro a ha
    obtain ⟨j, hj, rfl⟩ := List.getElem_of_mem ha
    have hj' : j < slot l := by rw [List.length_take] at hj; omega
    rw [List.getElem_take, slot_lt (l := l) hj' (List.getElem?_eq_getElem (by omega))]
    omega
  have hhi : ∀ a ∈ l.drop (slot l), (slot l : Int) + 1 < a.id := by
    intro a ha
    obtain ⟨j, hj, rfl⟩ := List.getElem_of_mem ha
    rw [List.length_drop] at hj
    rw [List.getElem_drop]
    have := slot_ge h (j := slot l + j) (by omega) (List.getElem?_eq_getElem (by omega))
    omega
  have hpos : (newCk l d p u t).pos = u := rfl
  refine ⟨?_, ?_, ?_⟩
  · unfold putCk
    rw [List.pairwise_append]
    refine ⟨h.ids.sublist (List.take_sublist _ _), List.pairwise_cons.2 ⟨fun a ha => hhi a ha, h.ids.sublist (List.drop_sublist _ _)⟩, fun a ha b hb => ?_⟩
    rcases List.mem_cons.1 hb with rfl | hb
    · exact hlo a ha
    · have h1 := hlo a ha
      have h2 := hhi b hb
      omega
  · intro c hc
    rcases mem_put.1 hc with rfl | hc
    · exact ⟨by simp only [newCk]; omega, by simp only [newCk]; omega, hd, by simp [newCk], by simp [newCk], by simp [newCk, h0], by simp [newCk, totalL, most], fun _ => hu, by simp [newCk]⟩
    · exact h.each c hc
  · unfold putCk
    have hn := atU_none hat
    rw [List.pairwise_append]
    refine ⟨h.uniq.sublist (List.take_sublist _ _), List.pairwise_cons.2 ⟨fun a ha _ h2 e => hn a (List.mem_of_mem_drop ha) h2 e.symm, h.uniq.sublist (List.drop_sublist _ _)⟩, fun a ha b hb => ?_⟩
    rcases List.mem_cons.1 hb with rfl | hb
    · exact fun h1 _ e => hn a (List.mem_of_mem_take ha) h1 e
    · have := h.uniq
      rw [← List.take_append_drop (slot l) l, List.pairwise_append] at this
      exact this.2.2 a ha b hb

theorem atU_mem {l : List Ck} (h : Inv l) {u : U3} {i : Int} : atU l u = some i ↔ ∃ c ∈ l, c.lost = false ∧ c.pos = u ∧ c.id = i := by
  rw [atU_iff h]
  constructor
  · rintro ⟨j, c, hc, hr⟩
    exact ⟨c, List.mem_of_getElem? hc, hr⟩
  · rintro ⟨c, hc, hr⟩
    obtain ⟨j, hj, rfl⟩ := List.getElem_of_mem hc
    exact ⟨j, _, List.getElem?_eq_getElem hj, hr⟩

theorem agree_add {M : List (U3 × Int)} {l : List Ck} (ha : Agree M l) (h : Inv l) {k : Nat} {c : Ck} (hl : c.lost = false) (hat : atU l c.pos = none) (hi : Inv (putCk l k c)) : Agree (mset M c.pos c.id) (putCk l k c) := by
  intro x
  apply opt_ext
  intro i
  rw [mget_set, atU_mem hi]
  by_cases e : x = c.pos
  · rw [if_pos e]
    constructor
    · intro h1
      cases h1
      exact ⟨c, mem_put.2 (.inl rfl), hl, e.symm, rfl⟩
    · rintro ⟨a, hm, h1, h2, rfl⟩
      rcases mem_put.1 hm with rfl | hm
      · rfl
      · exact absurd (h2.trans e) (atU_none hat a hm h1)
  · rw [if_neg e, ha x, atU_mem h]
    constructor
    · rintro ⟨a, hm, h1⟩
      exact ⟨a, mem_put.2 (.inr hm), h1⟩
    · rintro ⟨a, hm, h1, h2, h3⟩
      rcases mem_put.1 hm with rfl | hm
      · exact absurd h2.symm e
      · exact ⟨a, hm, h1, h2, h3⟩

theorem Chunks.insert {w w' : World} {lv v' : Value} {cs : List (Ck × Value)} (h : Chunks w lv cs) {S : List Nat} (hm : Mod S w w') (hS : NoRefs w S) {k : Nat} {c : Ck} {rv : Value}
    (ho : Own w' 45 23 v' ((cs.map fun p => p.1.cells p.2).take k ++ c.cells rv :: (cs.map fun p => p.1.cells p.2).drop k)) (hr : Refs w' rv c.refs) : Chunks w' v' (cs.take k ++ (c, rv) :: cs.drop k) := by
  refine ⟨by rw [List.map_append, List.map_cons, List.map_take, List.map_drop]; exact ho, fun p hp => ?_⟩
  rcases List.mem_append.1 hp with hp | hp
  · exact (h.2 p (List.mem_of_mem_take hp)).mod hm hS
  · rcases List.mem_cons.1 hp with rfl | hp
    · exact hr
    · exact (h.2 p (List.mem_of_mem_drop hp)).mod hm hS

theorem run_build_ck (w : World) (c : Ck) (a : Option Addr) (n m : Nat) (hd : c.dig.length = 16) (hl : c.lost = false) :
    (Instr.build 45 #[(0, .int .i64 c.id), (1, digV c.dig), (2, .int .u32 c.print), (3, .agg #[.int .i64 c.pos.row, .int .i64 c.pos.group, .int .i64 c.pos.unit]), (5, .slice a n m)]).run Try.prog w = .ok (.agg (c.cells (.slice a n m)).toArray) w := by
  obtain ⟨id, dig, print, pos, lost, refs⟩ := c
  simp only at hd hl
  subst hl
  match dig, hd with
  | [d0, d1, d2, d3, d4, d5, d6, d7, d8, d9, d10, d11, d12, d13, d14, d15], _ =>
    exact run_build w _ _ _ (by kernel_rfl)

theorem wpList_build_ck {ops : Array Oper} {rest : List Oper} {o : Oper} {a : Act} {w : World} {Q : Exit → Act → World → Prop} (hw : Region.wanted o (yielded ops a.tmps) = true) (x0 x1 x2 x3 x5 : Operand)
    (hop : o.op = .build 45 #[(0, x0), (1, x1), (2, x2), (3, x3), (5, x5)]) (c : Ck) (ad : Option Addr) (n m : Nat) (h0 : a.eval x0 = .int .i64 c.id) (h1 : a.eval x1 = digV c.dig) (h2 : a.eval x2 = .int .u32 c.print)
    (h3 : a.eval x3 = .agg #[.int .i64 c.pos.row, .int .i64 c.pos.group, .int .i64 c.pos.unit]) (h5 : a.eval x5 = .slice ad n m) (hd : c.dig.length = 16) (hl : c.lost = false)
    (h : wpList Try.prog ops Q rest (a.put o.dst (.agg (c.cells (.slice ad n m)).toArray)) w) : wpList Try.prog ops Q (o :: rest) a w :=
  wpList_wanted hw fun _ hK => by
    have hr := run_build_ck w c ad n m hd hl
    unfold Oper.wp execOp
    simp only [hop, Sem.run_bind, Sem.run_pure, Result.andThen_ok, List.map_toArray, List.map_cons, List.map_nil, h0, h1, h2, h3, h5, hr]
    exact hK _ _ h

theorem wp_buildSlice_ck {o : Oper} {a : Act} {w : World} {K : Act → World → Prop} {Q : Exit → Act → World → Prop} (x : Operand) (ho : o.op = .buildSlice 32 1 #[(0, x)]) (E : List Value) (hl : E.length = 23) (hx : a.eval x = .agg E.toArray)
    (h : K (a.put o.dst (.slice (some ⟨w.heap.size, 0, none⟩) 1 1)) (w.alloc (.cells E.toArray 45))) : o.wp Try.prog a w K Q := by
  have hz : (Try.prog.info? 45).map (fun i => (i.zero, i.size)) = (some (some (Value.agg zeroCells.toArray), 23) : Option (Option Value × Nat)) := by kernel_rfl
  cases hi : Try.prog.info? 45 with
  | none => simp [hi] at hz
  | some ie =>
    rw [hi] at hz
    obtain ⟨h1, h2⟩ : ie.zero = some (.agg zeroCells.toArray) ∧ ie.size = 23 := by simpa using hz
    refine wp_buildSlice 32 45 1 _ ho E.toArray ie _ Try.underlying32 hi h1 (by omega) (by omega) ?_ h
    rw [h2]
    simp only [List.map_toArray, List.map_cons, List.map_nil, hx]
    obtain ⟨e0, e1, e2, e3, e4, e5, e6, e7, e8, e9, e10, e11, e12, e13, e14, e15, e16, e17, e18, e19, e20, e21, e22, rfl⟩ : ∃ e0 e1 e2 e3 e4 e5 e6 e7 e8 e9 e10 e11 e12 e13 e14 e15 e16 e17 e18 e19 e20 e21 e22, E = [e0, e1, e2, e3, e4, e5, e6, e7, e8, e9, e10, e11, e12, e13, e14, e15, e16, e17, e18, e19, e20, e21, e22] := by
      match E, hl with
      | [e0, e1, e2, e3, e4, e5, e6, e7, e8, e9, e10, e11, e12, e13, e14, e15, e16, e17, e18, e19, e20, e21, e22], _ => exact ⟨e0, e1, e2, e3, e4, e5, e6, e7, e8, e9, e10, e11, e12, e13, e14, e15, e16, e17, e18, e19, e20, e21, e22, rfl⟩
    kernel_rfl

end Go.Proofs.Ytknkifanpppglaa

/- Walks: Add. -/
namespace Go.Proofs.Ytknkifanpppglaa
open Go.RowKit

theorem alloc_size (w : World) (o : Obj) : (w.alloc o).heap.size = w.heap.size + 1 := by simp

theorem alloc2_at (w : World) (o o' : Obj) : ((w.alloc o).alloc o').heap[w.heap.size + 1]? = some o' := by
  have := heap_alloc_at (w.alloc o) o'
  rwa [alloc_size] at this

theorem Own.isSlice {w : World} {E sz : Nat} {v : Value} {es : List (List Value)} (h : Own w E sz v es) : ∃ a n c, v = .slice a n c := by
  rcases h.shape with ⟨rfl, _⟩ | ⟨b, cap, cur, rfl, _⟩ <;> exact ⟨_, _, _, rfl⟩

theorem search_tab (w : World) (bb tb mb : Nat) (lv : Value) (l : List Ck) (n : Nat) (hn : n = l.length) (h : Tab w tb mb lv l) (hbb : w.cell? ⟨bb, 0, none⟩ = some (.pointer (some ⟨tb, 0, none⟩))) :
    Calls Try.prog 95 #[.int .i64 n, .func (.func 96) #[] #[.pointer (some ⟨bb, 0, none⟩)]] w fun e w' => e = .returned (.int .i64 (slot l)) ∧ Mod [] w w' := by
  subst hn
  obtain ⟨c0, _, hl, hI, _⟩ := h.open
  obtain ⟨cs, M, a1, a2, rfl, a4, a5, a6⟩ := h
  rcases a2.shape with ⟨rfl, rfl⟩ | ⟨b, cap, rfl, hb, hc, hm, hrow⟩
  · exact search_nil w bb
  · have := search_any w bb tb b cap cs.length cs rfl (by rwa [cksOf_len] at hl) hrow hI hbb c0
    rwa [← cksOf_len cs] at this

theorem Tab.isSlice {w : World} {tb mb : Nat} {lv : Value} {l : List Ck} (h : Tab w tb mb lv l) : ∃ ad n cap, lv = .slice ad n cap ∧ n = l.length := by
  rcases h.open.2.2.2.2 with ⟨rfl, rfl⟩ | ⟨b, cap, rfl, _⟩
  · exact ⟨_, _, _, rfl, rfl⟩
  · exact ⟨_, _, _, rfl, rfl⟩

set_option maxRecDepth 100000 in
set_option maxHeartbeats 2000000 in
theorem add_any (w : World) (tb mb : Nat) (lv : Value) (l : List Ck) (d : List Int) (p : Int) (u : U3) (t : Int) (hd16 : d.length = 16) (h : Tab w tb mb lv l) :
    Calls Try.prog 51 #[.pointer (some ⟨tb, 0, none⟩), digV d, .int .u32 p, .agg #[.int .i64 u.row, .int .i64 u.group, .int .i64 u.unit], .int .i64 t] w
      (TabPost tb mb lv (addL l d p u t).1 (.tuple #[.int .i64 (addL l d p u t).2.1, .int .i64 (addL l d p u t).2.2]) w) := by
  have HT := Lib.hid h
  have hc0 := h.open.1
  have hc1 := h.open.2.1
  have htb := Go.block_lt_of_cell hc1
  clear h
  have hparts := HT.out.parts
  have HP := Lib.hid hparts
  have hlen := HT.out.open.2.2.1
  obtain ⟨dc, hdc⟩ : ∃ dc, dc = (d.map (Value.int .u8)).toArray := ⟨_, rfl⟩
  have hdv : digV d = .agg dc := by rw [hdc]; rfl
  obtain ⟨w1, hw1⟩ : ∃ w1, w1 = ((w.alloc (.cells #[.pointer (some ⟨tb, 0, none⟩)] 27)).alloc (.cells dc 42)).alloc (.cells #[.int .i64 u.row, .int .i64 u.group, .int .i64 u.unit] 26) := ⟨_, rfl⟩
  have hm1 : Mod [] w w1 := by rw [hw1]; exact (((Mod.refl _ _).alloc _).alloc _).alloc _
  have hs1 : w1.heap.size = w.heap.size + 3 := by rw [hw1]; simp
  have b0 : w1.cell? ⟨w.heap.size, 0, none⟩ = some (.pointer (some ⟨tb, 0, none⟩)) := by
    rw [hw1]
    have hq : Mod [] (w.alloc (.cells #[.pointer (some ⟨tb, 0, none⟩)] 27)) w1 := by rw [hw1]; exact ((Mod.refl _ _).alloc _).alloc _
    rw [hw1] at hq
    exact hq.cell (by rw [cell_of_row _ _ _ _ _ _ (heap_alloc_at w _)]; rfl) (by simp)
  have bdig : Row w1 (w.heap.size + 1) 0 (d.map (Value.int .u8)) := by
    have hq : Mod [] ((w.alloc (.cells #[.pointer (some ⟨tb, 0, none⟩)] 27)).alloc (.cells dc 42)) w1 := by rw [hw1]; exact (Mod.refl _ _).alloc _
    have hh := heap_alloc_at (w.alloc (.cells #[.pointer (some ⟨tb, 0, none⟩)] 27)) (.cells dc 42)
    rw [alloc_size, hdc] at hh
    rw [hdc] at hq
    exact (Row.of_heap hh).mod hq (by simp)
  have hun : Row w1 (w.heap.size + 1 + 1) 0 u.cells := by
    have hh := heap_alloc_at ((w.alloc (.cells #[.pointer (some ⟨tb, 0, none⟩)] 27)).alloc (.cells dc 42)) (.cells #[.int .i64 u.row, .int .i64 u.group, .int .i64 u.unit] 26)
    rw [alloc_size, alloc_size, ← hw1] at hh
    exact Row.of_heap (cs := u.cells) hh
  have HW1 := Lib.hid hw1
  have HDc := Lib.hid hdc
  rw [hdv]
  clear hw1 hdc hdv hparts
  go_enter Try.func51, Try.ntmps51
  go_wp2
  rw [← HW1.out]
  clear HW1 HDc
  have u0 := hun 0 _ rfl
  have u1 := hun 1 _ rfl
  have u2 := hun 2 _ rfl
  have c0 := hm1.cell hc0 (by simp)
  have c1 := hm1.cell hc1 (by simp)
  have hlk : ∀ (n : Nat), (Instr.lookup 118 (.map (some mb)) (.agg #[.int .i64 u.row, .int .i64 u.group, .int .i64 u.unit]) true).run Try.prog (w1.drewN n) = .ok (.tuple #[.int .i64 ((atU l u).getD 0), .bool (atU l u).isSome]) (w1.drewN n) :=
    fun n => (HT.out.mod0 (hm1.drewN n)).lookup u
  have hm2 : ∀ n, Mod [] w (w1.drewN n) := fun n => hm1.drewN n
  have bun := hun
  clear hun hc0 hc1
  cases hok : u.ok with
  | false =>
    have e1 : addL l d p u t = (l, 0, 1) := by simp [addL, hok]
    have HE := Lib.hid e1
    have HOk := Lib.hid hok
    generalize (atU l u).getD 0 = r0 at *
    generalize (atU l u).isSome = r1 at *
    clear hok e1
    go_quiet (fail)
    go_wp2_with (go_at_call 67; refine (valid_any u _).mono ?_; rintro e w2 ⟨rfl, hmv⟩; rw [HOk.out])
    go_ret2
    exact ⟨lv, by rw [HE.out]; rfl, by rw [HE.out]; exact HT.out.mod0 ((hm2 _).trans_nil hmv), ((hm2 _).trans_nil hmv).nil, .inl rfl⟩
  | true =>
    cases htn : tenB t with
    | false =>
      have e1 : addL l d p u t = (l, 0, 1) := by simp [addL, hok, htn]
      have HE := Lib.hid e1
      have HOk := Lib.hid hok
      have HTn := Lib.hid htn
      generalize (atU l u).getD 0 = r0 at *
      generalize (atU l u).isSome = r1 at *
      clear hok e1 htn
      go_quiet (fail)
      go_wp2_with (first | (go_at_call 67; refine (valid_any u _).mono ?_; rintro e w2 ⟨rfl, hmv⟩; rw [HOk.out]) | (go_at_call 94; refine (isTenant_any t _).mono ?_; rintro e w3 ⟨rfl, rfl⟩; rw [HTn.out]))
      go_ret2
      exact ⟨lv, by rw [HE.out]; rfl, by rw [HE.out]; exact HT.out.mod0 ((hm2 _).trans_nil hmv), ((hm2 _).trans_nil hmv).nil, .inl rfl⟩
    | true =>
      have HOk := Lib.hid hok
      have HTn := Lib.hid htn
      cases hat : atU l u with
      | some o =>
        have e1 : addL l d p u t = (l, 0, 20) := by simp [addL, hok, htn, hat]
        have HE := Lib.hid e1
        rw [hat] at hlk
        simp only [Option.getD_some, Option.isSome_some] at hlk
        clear hok e1 htn hat
        go_quiet (fail)
        go_wp2_with (first | (go_at_call 67; refine (valid_any u _).mono ?_; rintro e w2 ⟨rfl, hmv⟩; rw [HOk.out]) | (go_at_call 94; refine (isTenant_any t _).mono ?_; rintro e w3 ⟨rfl, rfl⟩; rw [HTn.out]))
        go_ret2
        exact ⟨lv, by rw [HE.out]; rfl, by rw [HE.out]; exact HT.out.mod0 ((hm2 _).trans_nil hmv), ((hm2 _).trans_nil hmv).nil, .inl rfl⟩
      | none =>
        have HAt := Lib.hid hat
        rw [hat] at hlk
        simp only [Option.getD_none, Option.isSome_none] at hlk
        by_cases hfull : 65536 ≤ l.length
        · have e1 : addL l d p u t = (l, 0, 2) := by simp [addL, hok, htn, hat, hfull]
          have HE := Lib.hid e1
          have hfi : (65536 : Int) ≤ (l.length : Int) := by omega
          rcases HT.out.open.2.2.2.2 with ⟨_, rfl⟩ | ⟨b, cap, rfl, _⟩
          · simp at hfull
          · clear hok e1 htn hat
            go_quiet (fail)
            go_wp2_with (first | (go_at_call 67; refine (valid_any u _).mono ?_; rintro e w2 ⟨rfl, hmv⟩; rw [HOk.out]; have d0 := hmv.cell (b := tb) (o := 0) c0 (by simp); have d1 := hmv.cell (b := tb) (o := 1) c1 (by simp); have dd0 := hmv.cell (b := w.heap.size) (o := 0) b0 (by simp)) | (go_at_call 94; refine (isTenant_any t _).mono ?_; rintro e w3 ⟨rfl, rfl⟩; rw [HTn.out]))
            go_ret2
            exact ⟨_, by rw [HE.out]; rfl, by rw [HE.out]; exact HT.out.mod0 ((hm2 _).trans_nil hmv), ((hm2 _).trans_nil hmv).nil, .inl rfl⟩
        · have e1 : addL l d p u t = (putCk l (slot l) (newCk l d p u t), (slot l : Int) + 1, 0) := by simp [addL, hok, htn, hat, hfull, putCk, newCk]
          have HE := Lib.hid e1
          have hinv := inv_add HT.out.open.2.2.2.1 (p := p) hok htn hat (by omega) hd16
          have HInv := Lib.hid hinv
          clear e1 hok htn hat hinv
          obtain ⟨ad, n, cap, rfl, hn⟩ := HT.out.isSlice
          have hfi : (65536 : Int) ≤ (n : Int) ↔ False := ⟨fun h => by omega, False.elim⟩
          have HN := Lib.hid hn
          obtain ⟨k, hk⟩ : ∃ k, slot l = k := ⟨_, rfl⟩
          have hkl : k ≤ n := by rw [← hk, hn]; exact slot_le l
          have hwr : IntKind.i64.wrap ((k : Int) + 1) = (k : Int) + 1 := IntWalk.i64_in _ (by omega)
          have HK := Lib.hid hk
          clear hk hn hfull
          go_quiet (fail)
          go_wp2_with (first | (go_at_call 67; refine (valid_any u _).mono ?_; rintro e w2 ⟨rfl, hmv⟩; rw [HOk.out]; have d0 := hmv.cell (b := tb) (o := 0) c0 (by simp); have d1 := hmv.cell (b := tb) (o := 1) c1 (by simp); have ddig := bdig.mod (((Mod.refl [] w1).drewN nq).trans_nil hmv) (by simp); have dun := bun.mod (((Mod.refl [] w1).drewN nq).trans_nil hmv) (by simp); have dd0 := hmv.cell (b := w.heap.size) (o := 0) b0 (by simp)) | (go_at_call 94; refine (isTenant_any t _).mono ?_; rintro e w3 ⟨rfl, rfl⟩; rw [HTn.out]) | (go_at_call 95; refine (search_tab w2 w.heap.size tb mb _ l n HN.out (HT.out.mod0 ((hm2 _).trans_nil hmv)) dd0).mono ?_; rintro e w4 ⟨rfl, hms⟩; have edig := ddig.mod hms (by simp); have eun := dun.mod hms (by simp); have v0 := eun 0 _ rfl; have v1 := eun 1 _ rfl; have v2 := eun 2 _ rfl; rw [HK.out]) | (refine wpList_load_at rfl 42 (.tmp 6) rfl _ Try.underlying42 rfl 16 info42 (w.heap.size + 1) 0 (d.map (Value.int .u8)) rfl edig (by simpa using hd16) ?_) | (refine wpList_build_ck rfl (.tmp 51) (.tmp 52) (.tmp 53) (.tmp 54) (.tmp 57) rfl (⟨(k : Int) + 1, d, p, u, false, [(t, 1)]⟩ : Ck) (some ⟨w4.heap.size, 0, none⟩) 1 1 rfl rfl rfl rfl rfl hd16 rfl ?_) | (refine wpList_store_at rfl 45 (.tmp 15) (.tmp 58) rfl 23 info45 (w4.heap.size + 1) 0 45 zeroCells ((⟨(k : Int) + 1, d, p, u, false, [(t, 1)]⟩ : Ck).cells (.slice (some ⟨w4.heap.size, 0, none⟩) 1 1)) rfl rfl (alloc2_at w4 _ _) (by rw [Ck.cells_len]; show d.length + 7 = 23; omega) (oneCell_ck rfl) (by rw [Ck.cells_len]; show 0 + (d.length + 7) ≤ 23; omega) ?_; intro w6 hh6 hs6))
          have hdl : ((⟨(k : Int) + 1, d, p, u, false, [(t, 1)]⟩ : Ck).cells (.slice (some ⟨w4.heap.size, 0, none⟩) 1 1)).length = 23 := by rw [Ck.cells_len]; show d.length + 7 = 23; omega
          rw [splice_all _ _ (by rw [hdl]; rfl)] at hh6
          have hm46 : Mod [] w4 w6 := (((Mod.refl [] w4).alloc _).alloc _).trans hs6 (by simp)
          have hm26 : Mod [] w2 w6 := hms.trans_nil hm46
          have hm6 : Mod [] w w6 := ((hm2 _).trans_nil hmv).trans_nil hm26
          have h46 := hm46.size
          have h04 := (((hm1.trans_nil ((Mod.refl [] w1).drewN nq)).trans_nil hmv).trans_nil hms).size
          have hs4 : w4.heap.size + 1 < w6.heap.size := lt_of_heap hh6
          have f0 := hm26.cell dd0 (by simp)
          have ft0 := hm26.cell d0 (by simp)
          have ft1 := hm26.cell d1 (by simp)
          have fun6 := eun.mod hm46 (by simp)
          have hrow6 : Row w6 (w4.heap.size + 1) 0 ((⟨(k : Int) + 1, d, p, u, false, [(t, 1)]⟩ : Ck).cells (.slice (some ⟨w4.heap.size, 0, none⟩) 1 1)) := Row.of_heap hh6
          obtain ⟨cs, M, a1, a2, a3, a4, a5, a6⟩ := HT.out.mod0 hm6
          subst a3
          have H1 := Lib.hid a1
          have H2 := Lib.hid a2
          have H4 := Lib.hid a4
          have H5 := Lib.hid a5
          have H6 := Lib.hid a6
          have HH6 := Lib.hid hh6
          clear a1 a2 a4 a5 a6 hh6 hlk hm1
          obtain ⟨E, hE⟩ : ∃ E, E = (⟨(k : Int) + 1, d, p, u, false, [(t, 1)]⟩ : Ck).cells (.slice (some ⟨w4.heap.size, 0, none⟩) 1 1) := ⟨_, rfl⟩
          rw [← hE] at hdl hrow6
          have HEq := Lib.hid hE
          clear hE
          have hkp : ∀ (w' : World) (SS : List Nat), Mod SS w6 w' → w.heap.size ∉ SS → w4.heap.size + 1 ∉ SS → w'.cell? ⟨w.heap.size, 0, none⟩ = some (.pointer (some ⟨tb, 0, none⟩)) ∧ w'.rangeAt (w4.heap.size + 1) 0 E := fun w' SS hq q1 q3 => ⟨hq.cell f0 q1, hrow6.mod hq q3⟩
          have hown : ∀ x, x ∈ (Value.slice ad n cap).ownBlock.toList → x ≠ tb ∧ x ≠ mb ∧ x < w.heap.size := by
            intro x hx
            rw [Option.mem_toList] at hx
            have := HP.out.2.1 x hx
            exact ⟨this.1, this.2, HP.out.2.2.2.2.2 x hx⟩
          have hkA : ∀ o, (w6.drew.alloc o).cell? ⟨w.heap.size, 0, none⟩ = some (.pointer (some ⟨tb, 0, none⟩)) ∧ (w6.drew.alloc o).rangeAt (w4.heap.size + 1) 0 E := fun o => hkp _ [] (((Mod.refl [] w6).drew).alloc o) (by simp) (by simp)
          have hk7 : ∀ (w' : World) o, Mod (Value.slice ad n cap).ownBlock.toList (w6.drew.alloc o) w' → w'.cell? ⟨w.heap.size, 0, none⟩ = some (.pointer (some ⟨tb, 0, none⟩)) ∧ w'.rangeAt (w4.heap.size + 1) 0 E := fun w' o q1 => hkp _ (Value.slice ad n cap).ownBlock.toList ((((Mod.refl [] w6).drew).alloc o).nil.trans q1 (fun x hx => .inl hx)) (fun hx => by have := (hown _ hx).2.2; omega) (fun hx => by have := (hown _ hx).2.2; omega)
          have hk8 : ∀ (w' : World) o (v : Value), Mod (Value.slice ad n cap).ownBlock.toList (w6.drew.alloc o) w' → (w'.setCell ⟨tb, 0, none⟩ v).cell? ⟨w.heap.size, 0, none⟩ = some (.pointer (some ⟨tb, 0, none⟩)) ∧ (w'.setCell ⟨tb, 0, none⟩ v).rangeAt (w4.heap.size + 1) 0 E := fun w' o v q1 => hkp _ (tb :: (Value.slice ad n cap).ownBlock.toList) (((((Mod.refl [] w6).drew).alloc o).nil.trans q1 (fun x hx => .inl (List.mem_cons_of_mem _ hx))).setCell _ _ (.inl (by simp))) (fun hx => by rcases List.mem_cons.1 hx with hx | hx; omega; have := (hown _ hx).2.2; omega) (fun hx => by rcases List.mem_cons.1 hx with hx | hx; omega; have := (hown _ hx).2.2; omega)
          have ftA : ∀ o, (w6.alloc o).cell? ⟨tb, 0, none⟩ = some (.slice ad n cap) := fun o => ((Mod.refl [] w6).alloc o).cell ft0 (by simp)
          have hone6 := oneCell_cks H2.out.2
          have hE1 : ∀ u ∈ E, u.oneCell' = true := by rw [HEq.out]; exact oneCell_ck rfl
          have hkl6 : k ≤ (cs.map fun p => p.1.cells p.2).length := by rw [List.length_map, ← cksOf_len, ← HN.out]; exact hkl
          have hlen6 : (cs.map fun p => p.1.cells p.2).length ≤ 65536 := by rw [List.length_map, ← cksOf_len]; exact hlen
          have HkA := Lib.hid hkA
          have Hk7 := Lib.hid hk7
          have Hk8 := Lib.hid hk8
          have HOwn := Lib.hid hown
          have HOne6 := Lib.hid hone6
          have HE1 := Lib.hid hE1
          clear hkp hkA hk7 hk8 hown hone6 hE1
          have hS : w6.drew.cell? ⟨w.heap.size, 0, none⟩ = some (.pointer (some ⟨tb, 0, none⟩)) ∧ w6.drew.rangeAt (w4.heap.size + 1) 0 E := ⟨f0, hrow6.mod ((Mod.refl [] w6).drew) (by simp)⟩
          refine wp_region_held_drew (S := fun w' => w'.cell? ⟨w.heap.size, 0, none⟩ = some (.pointer (some ⟨tb, 0, none⟩)) ∧ w'.rangeAt (w4.heap.size + 1) 0 E) (by kernel_rfl) hS (fun hHeld => ?_)
          refine wpAnyH_take (i := 0) (v := (.pointer (some ⟨tb, 0, none⟩))) rfl (by kernel_rfl) (by kernel_rfl) (by kernel_rfl) (fun _ _ _ h => h) (Or.inl ⟨by rfl, ?_⟩) (by assumption) ?_
          · (intro wz hSz; obtain ⟨z0, z1⟩ := hSz; clear z1; go_simp)
          (try simp only [Act.put, List.setIfInBounds_toArray])
          refine wpAnyH_take (i := 1) (v := (.pointer (some ⟨tb, 0, none⟩))) rfl (by kernel_rfl) (by kernel_rfl) (by kernel_rfl) (fun _ _ _ h => h) (Or.inl ⟨by rfl, ?_⟩) (by assumption) ?_
          · (intro wz hSz; obtain ⟨z0, z1⟩ := hSz; clear z1; go_simp)
          (try simp only [Act.put])
          refine wpAnyH_take (i := 2) (v := (.pointer (some ⟨tb, 0, none⟩))) rfl (by kernel_rfl) (by kernel_rfl) (by kernel_rfl) (fun _ _ _ h => h) (Or.inl ⟨by rfl, ?_⟩) (by assumption) ?_
          · (intro wz hSz; obtain ⟨z0, z1⟩ := hSz; clear z1; go_simp)
          (try simp only [Act.put])
          refine wpAnyH_take (i := 3) (v := (.pointer (some ⟨tb, 0, none⟩))) rfl (by kernel_rfl) (by kernel_rfl) (by kernel_rfl) (fun _ _ _ h => h) (Or.inl ⟨by rfl, ?_⟩) (by assumption) ?_
          · (intro wz hSz; obtain ⟨z0, z1⟩ := hSz; clear z1; go_simp)
          (try simp only [Act.put])
          refine wpAnyH_take (i := 5) (v := (.int .i64 k)) rfl (by kernel_rfl) (by kernel_rfl) (by kernel_rfl) (fun _ _ _ h => h) (Or.inl ⟨by rfl, ?_⟩) (by assumption) ?_
          · (intro wz hSz; obtain ⟨z0, z1⟩ := hSz; clear z1; go_simp)
          (try simp only [Act.put])
          refine wpAnyH_take (i := 6) (v := (.agg E.toArray)) rfl (by kernel_rfl) (by kernel_rfl) (by kernel_rfl) (fun _ _ _ h => h) (yieldsIf_load_mid (by rfl) _ _ rfl _ _ rfl _ _ (fun _ h => h.2) Try.underlying45 rfl (by rw [hdl]; exact info45)) (by assumption) ?_
          (try simp only [Act.put])
          refine wpAnyH_ready (rs := [4, 7]) (by kernel_rfl) (by simp) ?_
          refine AllReadyH.cons (i := 4) rfl (fun K' hK => ?_) (AllReadyH.cons (i := 7) rfl (fun K' hK => ?_) AllReadyH.nil)
          · go_simp
            refine hK.out _ _ (hS) (fun _ => ?_)
            clear hK K'
            (try simp only [Act.put, List.setIfInBounds_toArray, List.set_cons_zero, List.set_cons_succ])
            refine wpAnyH_ready (rs := [7]) (by kernel_rfl) (by simp) ?_
            refine AllReadyH.cons (i := 7) rfl (fun K' hK => ?_) AllReadyH.nil
            rw [if_pos (by rfl)]
            refine wp_buildSlice_ck (.tmp 65) rfl E hdl rfl ?_
            refine hK.out _ _ (HkA.out _) (fun _ => ?_)
            clear hK K'
            (try simp only [Act.put, List.setIfInBounds_toArray])
            refine wpAnyH_ready (rs := [8]) (by kernel_rfl) (by simp) ?_
            refine AllReadyH.cons (i := 8) rfl (fun K' hK => ?_) AllReadyH.nil
            go_simp
            (go_at_call 97; refine (insertC_any _ (.slice ad n cap) k w6.heap.size (cs.map fun p => p.1.cells p.2) E hkl6 hlen6 (H2.out.1.mod (((Mod.refl [] w6).drew).alloc _) (by simp)) (heap_alloc_at w6.drew _) hdl HOne6.out HE1.out (fun b hb => by have := (HOwn.out b (by rw [Option.mem_toList]; exact hb)).2.2; omega)).mono ?_; rintro e w7 ⟨v', rfl, ho7, hm7, hf7⟩; obtain ⟨sa, sn, sc, rfl⟩ := ho7.isSlice; have htb7 := hm7.heap ((((Mod.refl [] w6).drew).alloc _).heap H1.out (by simp)) (fun hx => (HOwn.out _ hx).1 rfl); have fz7 := frozen_of_row w7 tb 0 _ _ htb7; have ct7 : w7.cell? ⟨tb, 0, none⟩ = some (.slice ad n cap) := (by rw [cell_of_row _ _ _ _ _ _ htb7]; rfl); have HTb7 := Lib.hid htb7; clear htb7)
            go_wp2_with fail
            refine hK.out _ _ (Hk7.out _ _ hm7) (fun _ => ?_)
            clear hK K'
            (try simp only [Act.put, List.setIfInBounds_toArray, List.set_cons_zero, List.set_cons_succ])
            refine wpAnyH_ready (rs := [9]) (by kernel_rfl) (by simp) ?_
            refine AllReadyH.cons (i := 9) rfl (fun K' hK => ?_) AllReadyH.nil
            go_simp
            refine hK.out _ _ (Hk7.out _ _ hm7) (fun _ => ?_)
            clear hK K'
            (try simp only [Act.put, List.setIfInBounds_toArray, List.set_cons_zero, List.set_cons_succ])
            refine wpAnyH_ready (rs := [10]) (by kernel_rfl) (by simp) ?_
            refine AllReadyH.cons (i := 10) rfl (fun K' hK => ?_) AllReadyH.nil
            go_simp
            refine hK.out _ _ (Hk7.out _ _ hm7) (fun _ => ?_)
            clear hK K'
            (try simp only [Act.put, List.setIfInBounds_toArray, List.set_cons_zero, List.set_cons_succ])
            refine wpAnyH_ready (rs := [11]) (by kernel_rfl) (by simp) ?_
            refine AllReadyH.cons (i := 11) rfl (fun K' hK => ?_) AllReadyH.nil
            go_simp
            refine hK.out _ _ (Hk8.out _ _ _ hm7) (fun _ => ?_)
            clear hK K'
            (try simp only [Act.put, List.setIfInBounds_toArray, List.set_cons_zero, List.set_cons_succ])
            refine wpAnyH_done (by kernel_rfl) ?_ _
            have hm67 : Mod (Value.slice ad n cap).ownBlock.toList w6 w7 := by
              first
              | exact ((((Mod.refl [] w6).drew).alloc _).nil.trans hm7 (fun x hx => .inl hx))
              | exact ((((Mod.refl [] w6).alloc _).drew).nil.trans hm7 (fun x hx => .inl hx))
            have h67 := hm67.size
            have hf67 : (Value.slice sa sn sc).ownBlock = (Value.slice ad n cap).ownBlock ∨ ∃ g, (Value.slice sa sn sc).ownBlock = some g ∧ w.heap.size ≤ g := by
              rcases hf7 with h | ⟨g, h, hg⟩
              · exact .inl h
              · refine .inr ⟨g, h, ?_⟩
                have : w6.heap.size ≤ g := by
                  refine Nat.le_trans ?_ hg
                  simp
                omega
            have hnb : ∀ b, (Value.slice sa sn sc).ownBlock = some b → b ≠ tb ∧ b ≠ mb := by
              intro b hb
              rcases hf67 with h | ⟨g, h, hg⟩
              · rw [h] at hb
                have := HOwn.out b (by rw [Option.mem_toList]; exact hb)
                exact ⟨this.1, this.2.1⟩
              · rw [h] at hb
                cases hb
                have h1 := HP.out.2.2.2.1
                have h2 := HP.out.2.2.2.2.1
                omega
            obtain ⟨w8, hw8⟩ : ∃ w8, w8 = w7.setCell ⟨tb, 0, none⟩ (.slice sa sn sc) := ⟨_, rfl⟩
            have hm78 : Mod [tb] w7 w8 := by rw [hw8]; exact (Mod.refl _ _).setCell _ _ (by simp)
            have hm68 : Mod (tb :: (Value.slice ad n cap).ownBlock.toList) w6 w8 := (hm67.mono (fun x hx => List.mem_cons_of_mem _ hx)).trans hm78 (by simp)
            have htb8 : w8.heap[tb]? = some (.cells #[.slice sa sn sc, .map (some mb)] 120 (0, 0)) := by
              rw [hw8, heap_setCell_same w7 tb 0 _ _ _ HTb7.out]; rfl
            have hmbw := HP.out.2.2.2.2.1
            have htmb := HP.out.1
            have hno : ∀ x, w.heap.size ≤ x → x ∉ tb :: (Value.slice ad n cap).ownBlock.toList := by
              intro x hx hm
              rcases List.mem_cons.1 hm with h | h
              · omega
              · have := (HOwn.out x h).2.2; omega
            have k0 := hm68.cell f0 (hno _ (Nat.le_refl _))
            have k1 : w8.cell? ⟨tb, 1, none⟩ = some (.map (some mb)) := by rw [cell_of_row _ _ _ _ _ _ htb8]; rfl
            have kun := fun6.mod hm68 (hno _ (by omega))
            have ku0 := kun 0 _ rfl
            have ku1 := kun 1 _ rfl
            have ku2 := kun 2 _ rfl
            have kid : w8.cell? ⟨w4.heap.size + 1, 0, none⟩ = some (.int .i64 ((k : Int) + 1)) := (hrow6.mod hm68 (hno _ (by omega))).at0 _ (by rw [HEq.out]; rfl)
            have hmb8 : mb ∉ tb :: (Value.slice ad n cap).ownBlock.toList := by
              intro hm
              rcases List.mem_cons.1 hm with h | h
              · exact htmb h.symm
              · exact (HOwn.out mb h).2.1 rfl
            have HM8 := Lib.hid (H4.out.mod hm68 hmb8)
            have HTb8 := Lib.hid htb8
            have HNb := Lib.hid hnb
            have HNo := Lib.hid hno
            rw [← hw8]
            clear htb8 hnb hno hw8 ct7 fz7
            go_wp2
            go_still_tail 7, (by kernel_rfl)
            go_wp2_with (refine wpList_mapUpdate_unit rfl (.tmp 73) (.tmp 74) (.tmp 76) rfl mb u ((k : Int) + 1) M rfl rfl rfl (HM8.out.mod ((Mod.refl [] w8).drew) (by simp)) ?_; intro w9 hM9 hm9; have kid9 := hm9.cell (b := w4.heap.size + 1) (o := 0) kid (by simp; omega); have HM9 := Lib.hid hM9; clear hM9)
            go_ret2
            have hm89 : Mod [mb] w8 w9 := ((Mod.refl [mb] w8).drew).trans hm9 (by simp)
            have hm69 : Mod (foot tb mb (.slice ad n cap)) w6 w9 := (hm68.mono (fun x hx => by rcases List.mem_cons.1 hx with h | h <;> simp [foot, h])).trans hm89 (by simp [foot])
            have hnr := (HT.out.mod0 hm6).parts.2.2.1
            have ho9 := (ho7.mod hm78 (fun b hb => by simpa using (HNb.out b hb).1)).mod hm89 (fun b hb => by simpa using (HNb.out b hb).2)
            rw [HEq.out] at ho9
            have hr0 : Own (w4.alloc (.cells #[.int .i64 t, .int .i64 1] 113)) 113 2 (.slice (some ⟨w4.heap.size, 0, none⟩) 1 1) [refCells (t, 1)] := Own.lit w4 113 2 [refCells (t, 1)] (by simp [refCells]) (by simp [maxLen]) [.int .i64 t, .int .i64 1] rfl
            have hsz0 : (w4.alloc (.cells #[.int .i64 t, .int .i64 1] 113)).heap.size = w4.heap.size + 1 := alloc_size _ _
            have hr6 := hr0.mod (((Mod.refl [] _).alloc _).trans hs6 (by rw [hsz0]; simp)) (by simp)
            have hr9 : Refs w9 (.slice (some ⟨w4.heap.size, 0, none⟩) 1 1) [(t, 1)] := (Own.mod hm68 hr6 (fun b hb => by simp [Value.ownBlock] at hb; subst hb; exact HNo.out _ (by omega))).mod hm89 (fun b hb => by simp [Value.ownBlock] at hb; subst hb; simp; omega)
            have hch := Chunks.insert (c := (⟨(k : Int) + 1, d, p, u, false, [(t, 1)]⟩ : Ck)) H2.out hm69 hnr ho9 hr9
            have hinv := HInv.out
            unfold newCk at hinv
            rw [HK.out] at hinv
            have hag := agree_add (c := (⟨(k : Int) + 1, d, p, u, false, [(t, 1)]⟩ : Ck)) H5.out H6.out rfl HAt.out hinv
            have hT9 : Tab w9 tb mb (.slice sa sn sc) (putCk (cksOf cs) k (⟨(k : Int) + 1, d, p, u, false, [(t, 1)]⟩ : Ck)) := ⟨_, _, hm89.heap HTb8.out (by simpa using htmb), hch, by simp [cksOf, putCk, List.map_take, List.map_drop], HM9.out, hag, hinv⟩
            have hE := HE.out
            unfold newCk at hE
            rw [HK.out] at hE
            refine ⟨.slice sa sn sc, by rw [hE]; rfl, by rw [hE]; exact hT9, ?_, hf67⟩
            exact hm6.nil.trans hm69 (fun x hx => .inl hx)
          · rw [if_pos (by rfl)]
            refine wp_buildSlice_ck (.tmp 65) rfl E hdl rfl ?_
            refine hK.out _ _ (HkA.out _) (fun _ => ?_)
            clear hK K'
            (try simp only [Act.put])
            refine wpAnyH_ready (rs := [4]) (by kernel_rfl) (by simp) ?_
            refine AllReadyH.cons (i := 4) rfl (fun K' hK => ?_) AllReadyH.nil
            have ftA' := ftA (.cells E.toArray 45)
            go_simp
            refine hK.out _ _ (HkA.out _) (fun _ => ?_)
            clear hK K'
            (try simp only [Act.put, List.setIfInBounds_toArray, List.set_cons_zero, List.set_cons_succ])
            refine wpAnyH_ready (rs := [8]) (by kernel_rfl) (by simp) ?_
            refine AllReadyH.cons (i := 8) rfl (fun K' hK => ?_) AllReadyH.nil
            go_simp
            (go_at_call 97; refine (insertC_any _ (.slice ad n cap) k w6.heap.size (cs.map fun p => p.1.cells p.2) E hkl6 hlen6 (H2.out.1.mod (((Mod.refl [] w6).drew).alloc _) (by simp)) (heap_alloc_at w6.drew _) hdl HOne6.out HE1.out (fun b hb => by have := (HOwn.out b (by rw [Option.mem_toList]; exact hb)).2.2; omega)).mono ?_; rintro e w7 ⟨v', rfl, ho7, hm7, hf7⟩; obtain ⟨sa, sn, sc, rfl⟩ := ho7.isSlice; have htb7 := hm7.heap ((((Mod.refl [] w6).drew).alloc _).heap H1.out (by simp)) (fun hx => (HOwn.out _ hx).1 rfl); have fz7 := frozen_of_row w7 tb 0 _ _ htb7; have ct7 : w7.cell? ⟨tb, 0, none⟩ = some (.slice ad n cap) := (by rw [cell_of_row _ _ _ _ _ _ htb7]; rfl); have HTb7 := Lib.hid htb7; clear htb7)
            go_wp2_with fail
            refine hK.out _ _ (Hk7.out _ _ hm7) (fun _ => ?_)
            clear hK K'
            (try simp only [Act.put, List.setIfInBounds_toArray, List.set_cons_zero, List.set_cons_succ])
            refine wpAnyH_ready (rs := [9]) (by kernel_rfl) (by simp) ?_
            refine AllReadyH.cons (i := 9) rfl (fun K' hK => ?_) AllReadyH.nil
            go_simp
            refine hK.out _ _ (Hk7.out _ _ hm7) (fun _ => ?_)
            clear hK K'
            (try simp only [Act.put, List.setIfInBounds_toArray, List.set_cons_zero, List.set_cons_succ])
            refine wpAnyH_ready (rs := [10]) (by kernel_rfl) (by simp) ?_
            refine AllReadyH.cons (i := 10) rfl (fun K' hK => ?_) AllReadyH.nil
            go_simp
            refine hK.out _ _ (Hk7.out _ _ hm7) (fun _ => ?_)
            clear hK K'
            (try simp only [Act.put, List.setIfInBounds_toArray, List.set_cons_zero, List.set_cons_succ])
            refine wpAnyH_ready (rs := [11]) (by kernel_rfl) (by simp) ?_
            refine AllReadyH.cons (i := 11) rfl (fun K' hK => ?_) AllReadyH.nil
            go_simp
            refine hK.out _ _ (Hk8.out _ _ _ hm7) (fun _ => ?_)
            clear hK K'
            (try simp only [Act.put, List.setIfInBounds_toArray, List.set_cons_zero, List.set_cons_succ])
            refine wpAnyH_done (by kernel_rfl) ?_ _
            have hm67 : Mod (Value.slice ad n cap).ownBlock.toList w6 w7 := by
              first
              | exact ((((Mod.refl [] w6).drew).alloc _).nil.trans hm7 (fun x hx => .inl hx))
              | exact ((((Mod.refl [] w6).alloc _).drew).nil.trans hm7 (fun x hx => .inl hx))
            have h67 := hm67.size
            have hf67 : (Value.slice sa sn sc).ownBlock = (Value.slice ad n cap).ownBlock ∨ ∃ g, (Value.slice sa sn sc).ownBlock = some g ∧ w.heap.size ≤ g := by
              rcases hf7 with h | ⟨g, h, hg⟩
              · exact .inl h
              · refine .inr ⟨g, h, ?_⟩
                have : w6.heap.size ≤ g := by
                  refine Nat.le_trans ?_ hg
                  simp
                omega
            have hnb : ∀ b, (Value.slice sa sn sc).ownBlock = some b → b ≠ tb ∧ b ≠ mb := by
              intro b hb
              rcases hf67 with h | ⟨g, h, hg⟩
              · rw [h] at hb
                have := HOwn.out b (by rw [Option.mem_toList]; exact hb)
                exact ⟨this.1, this.2.1⟩
              · rw [h] at hb
                cases hb
                have h1 := HP.out.2.2.2.1
                have h2 := HP.out.2.2.2.2.1
                omega
            obtain ⟨w8, hw8⟩ : ∃ w8, w8 = w7.setCell ⟨tb, 0, none⟩ (.slice sa sn sc) := ⟨_, rfl⟩
            have hm78 : Mod [tb] w7 w8 := by rw [hw8]; exact (Mod.refl _ _).setCell _ _ (by simp)
            have hm68 : Mod (tb :: (Value.slice ad n cap).ownBlock.toList) w6 w8 := (hm67.mono (fun x hx => List.mem_cons_of_mem _ hx)).trans hm78 (by simp)
            have htb8 : w8.heap[tb]? = some (.cells #[.slice sa sn sc, .map (some mb)] 120 (0, 0)) := by
              rw [hw8, heap_setCell_same w7 tb 0 _ _ _ HTb7.out]; rfl
            have hmbw := HP.out.2.2.2.2.1
            have htmb := HP.out.1
            have hno : ∀ x, w.heap.size ≤ x → x ∉ tb :: (Value.slice ad n cap).ownBlock.toList := by
              intro x hx hm
              rcases List.mem_cons.1 hm with h | h
              · omega
              · have := (HOwn.out x h).2.2; omega
            have k0 := hm68.cell f0 (hno _ (Nat.le_refl _))
            have k1 : w8.cell? ⟨tb, 1, none⟩ = some (.map (some mb)) := by rw [cell_of_row _ _ _ _ _ _ htb8]; rfl
            have kun := fun6.mod hm68 (hno _ (by omega))
            have ku0 := kun 0 _ rfl
            have ku1 := kun 1 _ rfl
            have ku2 := kun 2 _ rfl
            have kid : w8.cell? ⟨w4.heap.size + 1, 0, none⟩ = some (.int .i64 ((k : Int) + 1)) := (hrow6.mod hm68 (hno _ (by omega))).at0 _ (by rw [HEq.out]; rfl)
            have hmb8 : mb ∉ tb :: (Value.slice ad n cap).ownBlock.toList := by
              intro hm
              rcases List.mem_cons.1 hm with h | h
              · exact htmb h.symm
              · exact (HOwn.out mb h).2.1 rfl
            have HM8 := Lib.hid (H4.out.mod hm68 hmb8)
            have HTb8 := Lib.hid htb8
            have HNb := Lib.hid hnb
            have HNo := Lib.hid hno
            rw [← hw8]
            clear htb8 hnb hno hw8 ct7 fz7
            go_wp2
            go_still_tail 7, (by kernel_rfl)
            go_wp2_with (refine wpList_mapUpdate_unit rfl (.tmp 73) (.tmp 74) (.tmp 76) rfl mb u ((k : Int) + 1) M rfl rfl rfl (HM8.out.mod ((Mod.refl [] w8).drew) (by simp)) ?_; intro w9 hM9 hm9; have kid9 := hm9.cell (b := w4.heap.size + 1) (o := 0) kid (by simp; omega); have HM9 := Lib.hid hM9; clear hM9)
            go_ret2
            have hm89 : Mod [mb] w8 w9 := ((Mod.refl [mb] w8).drew).trans hm9 (by simp)
            have hm69 : Mod (foot tb mb (.slice ad n cap)) w6 w9 := (hm68.mono (fun x hx => by rcases List.mem_cons.1 hx with h | h <;> simp [foot, h])).trans hm89 (by simp [foot])
            have hnr := (HT.out.mod0 hm6).parts.2.2.1
            have ho9 := (ho7.mod hm78 (fun b hb => by simpa using (HNb.out b hb).1)).mod hm89 (fun b hb => by simpa using (HNb.out b hb).2)
            rw [HEq.out] at ho9
            have hr0 : Own (w4.alloc (.cells #[.int .i64 t, .int .i64 1] 113)) 113 2 (.slice (some ⟨w4.heap.size, 0, none⟩) 1 1) [refCells (t, 1)] := Own.lit w4 113 2 [refCells (t, 1)] (by simp [refCells]) (by simp [maxLen]) [.int .i64 t, .int .i64 1] rfl
            have hsz0 : (w4.alloc (.cells #[.int .i64 t, .int .i64 1] 113)).heap.size = w4.heap.size + 1 := alloc_size _ _
            have hr6 := hr0.mod (((Mod.refl [] _).alloc _).trans hs6 (by rw [hsz0]; simp)) (by simp)
            have hr9 : Refs w9 (.slice (some ⟨w4.heap.size, 0, none⟩) 1 1) [(t, 1)] := (Own.mod hm68 hr6 (fun b hb => by simp [Value.ownBlock] at hb; subst hb; exact HNo.out _ (by omega))).mod hm89 (fun b hb => by simp [Value.ownBlock] at hb; subst hb; simp; omega)
            have hch := Chunks.insert (c := (⟨(k : Int) + 1, d, p, u, false, [(t, 1)]⟩ : Ck)) H2.out hm69 hnr ho9 hr9
            have hinv := HInv.out
            unfold newCk at hinv
            rw [HK.out] at hinv
            have hag := agree_add (c := (⟨(k : Int) + 1, d, p, u, false, [(t, 1)]⟩ : Ck)) H5.out H6.out rfl HAt.out hinv
            have hT9 : Tab w9 tb mb (.slice sa sn sc) (putCk (cksOf cs) k (⟨(k : Int) + 1, d, p, u, false, [(t, 1)]⟩ : Ck)) := ⟨_, _, hm89.heap HTb8.out (by simpa using htmb), hch, by simp [cksOf, putCk, List.map_take, List.map_drop], HM9.out, hag, hinv⟩
            have hE := HE.out
            unfold newCk at hE
            rw [HK.out] at hE
            refine ⟨.slice sa sn sc, by rw [hE]; rfl, by rw [hE]; exact hT9, ?_, hf67⟩
            exact hm6.nil.trans hm69 (fun x hx => .inl hx)

end Go.Proofs.Ytknkifanpppglaa
