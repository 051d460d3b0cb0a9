/- The law ChunksCounts: walks. -/
import Derived.Test.YtknkifanpppglaaW31
import Derived.Test.YtknkifanpppglaaW32
namespace Go.Proofs.Ytknkifanpppglaa
open Go.RowKit

theorem opL_inv {l : List Ck} (h : Inv l) (o : Opn) : Inv (opL l o).1 := by
  unfold opL
  split
  · unfold addL
    split
    · exact h
    · rename_i h1
      split
      · exact h
      · rename_i h2
        split
        · exact h
        · rename_i h3
          have hu : o.pos.ok = true := by revert h1; cases o.pos.ok <;> simp
          have ht : tenB o.tenant = true := by revert h1; cases tenB o.tenant <;> simp
          exact inv_add h hu ht (by simpa using h2) (by omega) (by simp [digOf])
  · split
    · unfold referL
      split
      · exact h
      · split
        · exact h
        · rename_i hb
          split
          · exact h
          · rename_i c hc
            split
            · exact h
            · rename_i htot
              have ha := argsBad_no (by simpa using hb)
              have hok := h.each c (List.mem_of_getElem? hc)
              have hh := held_bounds (fun x hx => (hok.ref1 x hx).2.2) o.tenant
              exact inv_refs h hc ⟨ha.1, ha.2.1⟩ (by omega) (with_ne (by omega)) (by omega)
    · split
      · unfold unreferL
        split
        · exact h
        · split
          · exact h
          · rename_i hb
            split
            · exact h
            · rename_i c hc
              have ha := argsBad_no (by simpa using hb)
              have hok := h.each c (List.mem_of_getElem? hc)
              split
              · exact h
              · rename_i hn
                split
                · rename_i hne
                  have := hok.tot
                  exact inv_refs h hc ⟨ha.1, ha.2.1⟩ (by omega) hne (by omega)
                · exact inv_erase h _
      · split
        · unfold moveL
          split
          · exact h
          · rename_i k hi
            split
            · exact h
            · rename_i hu
              split
              · exact h
              · rename_i hat
                split
                · exact h
                · rename_i c hc
                  have hid : c.id = o.id := by
                    obtain ⟨c', h1, h2, _⟩ := idxOf_some.1 hi
                    rw [hc] at h1; cases h1; exact h2
                  refine inv_move h hc (by revert hu; cases o.pos.ok <;> simp) (fun i hi => ?_)
                  rw [hi] at hat
                  simp at hat
                  rw [hat, hid]
        · split
          · unfold loseL
            split
            · exact h
            · split
              · exact h
              · rename_i c hc
                exact inv_lose h hc
          · exact h

theorem opsL_inv {l : List Ck} (h : Inv l) (s : List Opn) : Inv (opsL l s) := by
  induction s generalizing l with
  | nil => exact h
  | cons o s ih => exact ih (opL_inv h o)

def wantC (f : Int → Int) : List Value := (List.range 16).map fun (t : Nat) => .int .i64 (f (t : Int))
theorem wantC_len (f : Int → Int) : (wantC f).length = 16 := by simp [wantC]
theorem wantC_get (f : Int → Int) {t : Nat} (h : t < 16) : (wantC f)[t]? = some (.int .i64 (f t)) := by simp [wantC, h]
theorem wantC_congr {f g : Int → Int} (h : ∀ t : Nat, t < 16 → f t = g t) : wantC f = wantC g := by
  unfold wantC
  apply List.map_congr_left
  intro t ht
  rw [h t (by simpa using ht)]
theorem wantC_set (f : Int → Int) (t : Nat) (v : Int) (h : t < 16) : (wantC f).set t (.int .i64 v) = wantC (fun x => if x = t then v else f x) := by
  apply List.ext_getElem?
  intro j
  by_cases hj : j < 16
  · rw [List.getElem?_set, wantC_get f hj, wantC_len, wantC_get (fun x => if x = (t : Int) then v else f x) hj]
    by_cases e : t = j
    · subst e; simp [h]
    · rw [if_neg e, if_neg (by omega)]
  · rw [List.getElem?_eq_none (by simp [wantC]; omega), List.getElem?_eq_none (by simp [wantC]; omega)]

/-- nothing is counted -/
theorem want_same {l : List Ck} (h : Inv l) (o : Opn) (he : (opL l o).2.2 ≠ 0 ∨ o.tenant < 0 ∨ 15 < o.tenant ∨ (o.kind ≠ 1 ∧ o.kind ≠ 2 ∧ o.kind ≠ 3)) : wantC (countL (opL l o).1) = wantC (countL l) := by
  apply wantC_congr
  intro t ht
  rw [count_op h]
  rcases he with he | he | he | ⟨h1, h2, h3⟩
  · rw [if_neg (fun e => he e.1)]; omega
  · rw [if_neg (fun e => by omega)]; omega
  · rw [if_neg (fun e => by omega)]; omega
  · unfold gainO
    rw [if_neg h1, if_neg h2, if_neg h3]
    split <;> omega

theorem want_gain {l : List Ck} (h : Inv l) (o : Opn) (t : Nat) (ht : o.tenant = t) (ht' : t < 16) (he : (opL l o).2.2 = 0) : wantC (countL (opL l o).1) = (wantC (countL l)).set t (.int .i64 (countL l t + gainO o)) := by
  rw [wantC_set _ _ _ ht']
  apply wantC_congr
  intro j hj
  rw [count_op h, he, ht]
  by_cases e : (j : Int) = t
  · rw [if_pos ⟨rfl, e⟩, if_pos e, e]
  · rw [if_neg (fun x => e x.2), if_neg e]; omega

theorem count_range {l : List Ck} (h : Inv l) (t : Int) : 0 ≤ countL l t ∧ countL l t ≤ 140737488355328 := by
  have := count_take_bounds h.each (inv_len h) t l.length
  rwa [List.take_of_length_le (Nat.le_refl _)] at this

theorem OT.less {w0 w : World} {tb mb : Nat} {lv : Value} {l : List Ck} {K K' : List Nat} (h : OT w0 w tb mb lv l K) (hk : ∀ b ∈ K', b ∈ K) : OT w0 w tb mb lv l K' :=
  ⟨h.tab, h.mod, h.tb0, h.mb0, h.lv0, fun b hb => h.keep b (hk b hb)⟩

theorem OT.inv {w0 w : World} {tb mb : Nat} {lv : Value} {l : List Ck} {K : List Nat} (h : OT w0 w tb mb lv l K) : Inv l := h.tab.open.2.2.2.1

/-- a cell of a kept block is written -/
theorem OT.set {w0 w : World} {tb mb : Nat} {lv : Value} {l : List Ck} {K : List Nat} (h : OT w0 w tb mb lv l K) {wb : Nat} (hb : wb ∈ K) (h0 : w0.heap.size ≤ wb) {cur : Array Value} {t : TypeId} (hh : w.heap[wb]? = some (.cells cur t (0, 0))) (ht : t ≠ 113) (i : Nat) (v : Value) :
    OT w0 (w.setCell ⟨wb, i, none⟩ v) tb mb lv l K := by
  have hm : Mod [wb] w (w.setCell ⟨wb, i, none⟩ v) := (Mod.refl _ _).setCell _ _ (by simp)
  have hk := (h.keep wb hb).1
  simp only [foot, List.mem_cons, Option.mem_toList, not_or] at hk
  refine ⟨h.tab.mod hm (NoRefs.one hh ht) (by simpa using fun e => hk.1 e.symm) (by simpa using fun e => hk.2.1 e.symm) (fun b hbb => by simp; intro e; subst e; exact hk.2.2 hbb), h.mod.trans hm (by simpa using h0), h.tb0, h.mb0, h.lv0, fun b hb' => ⟨(h.keep b hb').1, Nat.lt_of_lt_of_le (h.keep b hb').2 hm.size⟩⟩

end Go.Proofs.Ytknkifanpppglaa
