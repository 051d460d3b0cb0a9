/- The plain law of Add; a chunk is built. -/
import Derived.Test.YtknkifanpppglaaW20
import Derived.Great.BuildSlice
namespace Go.Proofs.Ytknkifanpppglaa
open Go.RowKit

def newCk (l : List Ck) (d : List Int) (p : Int) (u : U3) (t : Int) : Ck := ⟨(slot l : Int) + 1, d, p, u, false, [(t, 1)]⟩
def putCk (l : List Ck) (k : Nat) (c : Ck) : List Ck := l.take k ++ c :: l.drop k

theorem mem_put {l : List Ck} {k : Nat} {c x : Ck} : x ∈ putCk l k c ↔ x = c ∨ x ∈ l := by
  unfold putCk
  constructor
  · intro h
    rcases List.mem_append.1 h with h | h
    · exact .inr (List.mem_of_mem_take h)
    · rcases List.mem_cons.1 h with h | h
      · exact .inl h
      · exact .inr (List.mem_of_mem_drop h)
  · rintro (rfl | h)
    · simp
    · rw [← List.take_append_drop k l] at h
      rcases List.mem_append.1 h with h | h
      · exact List.mem_append_left _ h
      · exact List.mem_append_right _ (List.mem_cons_of_mem _ h)

theorem atU_none {l : List Ck} {u : U3} (h : atU l u = none) : ∀ c ∈ l, c.lost = false → c.pos ≠ u := by
  intro c hc hl hp
  unfold atU at h
  rw [Option.map_eq_none_iff, List.find?_eq_none] at h
  have := h c hc
  simp [hl, hp] at this

theorem inv_add {l : List Ck} (h : Inv l) {d : List Int} {p : Int} {u : U3} {t : Int} (hu : u.ok = true) (ht : tenB t = true) (hat : atU l u = none) (hl : l.length < 65536) (hd : d.length = 16) :
    Inv (putCk l (slot l) (newCk l d p u t)) := by
  have hs := slot_le l
  have h0 : 0 ≤ t ∧ t < 16 := by simpa [tenB] using ht
  have hlo : ∀ a ∈ l.take (slot l), a.id < (slot l : Int) + 1 := by
    intro a ha
    obtain ⟨j, hj, rfl⟩ := List.getElem_of_mem ha
    have hj' : j < slot l := by rw [List.length_take] at hj; omega
    rw [List.getElem_take, slot_lt (l := l) hj' (List.getElem?_eq_getElem (by omega))]
    omega
  have hhi : ∀ a ∈ l.drop (slot l), (slot l : Int) + 1 < a.id := by
    intro a ha
    obtain ⟨j, hj, rfl⟩ := List.getElem_of_mem ha
    rw [List.length_drop] at hj
    rw [List.getElem_drop]
    have := slot_ge h (j := slot l + j) (by omega) (List.getElem?_eq_getElem (by omega))
    omega
  have hpos : (newCk l d p u t).pos = u := rfl
  refine ⟨?_, ?_, ?_⟩
  · unfold putCk
    rw [List.pairwise_append]
    refine ⟨h.ids.sublist (List.take_sublist _ _), List.pairwise_cons.2 ⟨fun a ha => hhi a ha, h.ids.sublist (List.drop_sublist _ _)⟩, fun a ha b hb => ?_⟩
    rcases List.mem_cons.1 hb with rfl | hb
    · exact hlo a ha
    · have h1 := hlo a ha
      have h2 := hhi b hb
      omega
  · intro c hc
    rcases mem_put.1 hc with rfl | hc
    · exact ⟨by simp only [newCk]; omega, by simp only [newCk]; omega, hd, by simp [newCk], by simp [newCk], by simp [newCk, h0], by simp [newCk, totalL, most], fun _ => hu, by simp [newCk]⟩
    · exact h.each c hc
  · unfold putCk
    have hn := atU_none hat
    rw [List.pairwise_append]
    refine ⟨h.uniq.sublist (List.take_sublist _ _), List.pairwise_cons.2 ⟨fun a ha _ h2 e => hn a (List.mem_of_mem_drop ha) h2 e.symm, h.uniq.sublist (List.drop_sublist _ _)⟩, fun a ha b hb => ?_⟩
    rcases List.mem_cons.1 hb with rfl | hb
    · exact fun h1 _ e => hn a (List.mem_of_mem_take ha) h1 e
    · have := h.uniq
      rw [← List.take_append_drop (slot l) l, List.pairwise_append] at this
      exact this.2.2 a ha b hb

theorem atU_mem {l : List Ck} (h : Inv l) {u : U3} {i : Int} : atU l u = some i ↔ ∃ c ∈ l, c.lost = false ∧ c.pos = u ∧ c.id = i := by
  rw [atU_iff h]
  constructor
  · rintro ⟨j, c, hc, hr⟩
    exact ⟨c, List.mem_of_getElem? hc, hr⟩
  · rintro ⟨c, hc, hr⟩
    obtain ⟨j, hj, rfl⟩ := List.getElem_of_mem hc
    exact ⟨j, _, List.getElem?_eq_getElem hj, hr⟩

theorem agree_add {M : List (U3 × Int)} {l : List Ck} (ha : Agree M l) (h : Inv l) {k : Nat} {c : Ck} (hl : c.lost = false) (hat : atU l c.pos = none) (hi : Inv (putCk l k c)) : Agree (mset M c.pos c.id) (putCk l k c) := by
  intro x
  apply opt_ext
  intro i
  rw [mget_set, atU_mem hi]
  by_cases e : x = c.pos
  · rw [if_pos e]
    constructor
    · intro h1
      cases h1
      exact ⟨c, mem_put.2 (.inl rfl), hl, e.symm, rfl⟩
    · rintro ⟨a, hm, h1, h2, rfl⟩
      rcases mem_put.1 hm with rfl | hm
      · rfl
      · exact absurd (h2.trans e) (atU_none hat a hm h1)
  · rw [if_neg e, ha x, atU_mem h]
    constructor
    · rintro ⟨a, hm, h1⟩
      exact ⟨a, mem_put.2 (.inr hm), h1⟩
    · rintro ⟨a, hm, h1, h2, h3⟩
      rcases mem_put.1 hm with rfl | hm
      · exact absurd h2.symm e
      · exact ⟨a, hm, h1, h2, h3⟩

theorem Chunks.insert {w w' : World} {lv v' : Value} {cs : List (Ck × Value)} (h : Chunks w lv cs) {S : List Nat} (hm : Mod S w w') (hS : NoRefs w S) {k : Nat} {c : Ck} {rv : Value}
    (ho : Own w' 45 23 v' ((cs.map fun p => p.1.cells p.2).take k ++ c.cells rv :: (cs.map fun p => p.1.cells p.2).drop k)) (hr : Refs w' rv c.refs) : Chunks w' v' (cs.take k ++ (c, rv) :: cs.drop k) := by
  refine ⟨by rw [List.map_append, List.map_cons, List.map_take, List.map_drop]; exact ho, fun p hp => ?_⟩
  rcases List.mem_append.1 hp with hp | hp
  · exact (h.2 p (List.mem_of_mem_take hp)).mod hm hS
  · rcases List.mem_cons.1 hp with rfl | hp
    · exact hr
    · exact (h.2 p (List.mem_of_mem_drop hp)).mod hm hS

theorem run_build_ck (w : World) (c : Ck) (a : Option Addr) (n m : Nat) (hd : c.dig.length = 16) (hl : c.lost = false) :
    (Instr.build 45 #[(0, .int .i64 c.id), (1, digV c.dig), (2, .int .u32 c.print), (3, .agg #[.int .i64 c.pos.row, .int .i64 c.pos.group, .int .i64 c.pos.unit]), (5, .slice a n m)]).run Try.prog w = .ok (.agg (c.cells (.slice a n m)).toArray) w := by
  obtain ⟨id, dig, print, pos, lost, refs⟩ := c
  simp only at hd hl
  subst hl
  match dig, hd with
  | [d0, d1, d2, d3, d4, d5, d6, d7, d8, d9, d10, d11, d12, d13, d14, d15], _ =>
    exact run_build w _ _ _ (by kernel_rfl)

theorem wpList_build_ck {ops : Array Oper} {rest : List Oper} {o : Oper} {a : Act} {w : World} {Q : Exit → Act → World → Prop} (hw : Region.wanted o (yielded ops a.tmps) = true) (x0 x1 x2 x3 x5 : Operand)
    (hop : o.op = .build 45 #[(0, x0), (1, x1), (2, x2), (3, x3), (5, x5)]) (c : Ck) (ad : Option Addr) (n m : Nat) (h0 : a.eval x0 = .int .i64 c.id) (h1 : a.eval x1 = digV c.dig) (h2 : a.eval x2 = .int .u32 c.print)
    (h3 : a.eval x3 = .agg #[.int .i64 c.pos.row, .int .i64 c.pos.group, .int .i64 c.pos.unit]) (h5 : a.eval x5 = .slice ad n m) (hd : c.dig.length = 16) (hl : c.lost = false)
    (h : wpList Try.prog ops Q rest (a.put o.dst (.agg (c.cells (.slice ad n m)).toArray)) w) : wpList Try.prog ops Q (o :: rest) a w :=
  wpList_wanted hw fun _ hK => by
    have hr := run_build_ck w c ad n m hd hl
    unfold Oper.wp execOp
    simp only [hop, Sem.run_bind, Sem.run_pure, Result.andThen_ok, List.map_toArray, List.map_cons, List.map_nil, h0, h1, h2, h3, h5, hr]
    exact hK _ _ h

theorem wp_buildSlice_ck {o : Oper} {a : Act} {w : World} {K : Act → World → Prop} {Q : Exit → Act → World → Prop} (x : Operand) (ho : o.op = .buildSlice 32 1 #[(0, x)]) (E : List Value) (hl : E.length = 23) (hx : a.eval x = .agg E.toArray)
    (h : K (a.put o.dst (.slice (some ⟨w.heap.size, 0, none⟩) 1 1)) (w.alloc (.cells E.toArray 45))) : o.wp Try.prog a w K Q := by
  have hz : (Try.prog.info? 45).map (fun i => (i.zero, i.size)) = (some (some (Value.agg zeroCells.toArray), 23) : Option (Option Value × Nat)) := by kernel_rfl
  cases hi : Try.prog.info? 45 with
  | none => simp [hi] at hz
  | some ie =>
    rw [hi] at hz
    obtain ⟨h1, h2⟩ : ie.zero = some (.agg zeroCells.toArray) ∧ ie.size = 23 := by simpa using hz
    refine wp_buildSlice 32 45 1 _ ho E.toArray ie _ Try.underlying32 hi h1 (by omega) (by omega) ?_ h
    rw [h2]
    simp only [List.map_toArray, List.map_cons, List.map_nil, hx]
    obtain ⟨e0, e1, e2, e3, e4, e5, e6, e7, e8, e9, e10, e11, e12, e13, e14, e15, e16, e17, e18, e19, e20, e21, e22, rfl⟩ : ∃ e0 e1 e2 e3 e4 e5 e6 e7 e8 e9 e10 e11 e12 e13 e14 e15 e16 e17 e18 e19 e20 e21 e22, E = [e0, e1, e2, e3, e4, e5, e6, e7, e8, e9, e10, e11, e12, e13, e14, e15, e16, e17, e18, e19, e20, e21, e22] := by
      match E, hl with
      | [e0, e1, e2, e3, e4, e5, e6, e7, e8, e9, e10, e11, e12, e13, e14, e15, e16, e17, e18, e19, e20, e21, e22], _ => exact ⟨e0, e1, e2, e3, e4, e5, e6, e7, e8, e9, e10, e11, e12, e13, e14, e15, e16, e17, e18, e19, e20, e21, e22, rfl⟩
    kernel_rfl

end Go.Proofs.Ytknkifanpppglaa
