/- A table that a law has made; the law's sanity. -/
import Derived.Test.YtknkifanpppglaaW29
namespace Go.Proofs.Ytknkifanpppglaa
open Go.RowKit

/-- a table of the call's own; the blocks K are none of it -/
structure OT (w0 w : World) (tb mb : Nat) (lv : Value) (l : List Ck) (K : List Nat) : Prop where
  tab : Tab w tb mb lv l
  mod : Mod [] w0 w
  tb0 : w0.heap.size ≤ tb
  mb0 : w0.heap.size ≤ mb
  lv0 : FreshN w0.heap.size lv
  keep : ∀ b ∈ K, b ∉ foot tb mb lv ∧ b < w.heap.size

/-- the blocks K hold what they held -/
def Still (K : List Nat) (w w' : World) : Prop := ∀ b ∈ K, w'.heap[b]? = w.heap[b]?

theorem Still.row {K : List Nat} {w w' : World} (h : Still K w w') {b off : Nat} {cs : List Value} (hr : Row w b off cs) (hb : b ∈ K) : Row w' b off cs := by
  intro j u hu
  rw [World.cell?_of_block (w := w) (h b hb)]
  exact hr j u hu
theorem Still.heap {K : List Nat} {w w' : World} (h : Still K w w') {b : Nat} {o : Obj} (hr : w.heap[b]? = some o) (hb : b ∈ K) : w'.heap[b]? = some o := by
  rw [h b hb]; exact hr
theorem Still.own {K : List Nat} {w w' : World} (h : Still K w w') {E sz : Nat} {v : Value} {es : List (List Value)} (ho : Own w E sz v es) (hb : ∀ b, v.ownBlock = some b → b ∈ K) : Own w' E sz v es := by
  refine ⟨ho.1, ho.2.1, ?_⟩
  rcases ho.2.2 with h1 | ⟨g, cap, cur, h1, h2, h3, h4⟩
  · exact .inl h1
  · exact .inr ⟨g, cap, cur, h1, h2, h.heap h3 (hb g (by rw [h1]; rfl)), h4⟩

theorem OT.same {w0 w w' : World} {tb mb : Nat} {lv : Value} {l : List Ck} {K : List Nat} (h : OT w0 w tb mb lv l K) (hm : Mod [] w w') : OT w0 w' tb mb lv l K ∧ Still K w w' :=
  ⟨⟨h.tab.mod0 hm, h.mod.trans_nil hm, h.tb0, h.mb0, h.lv0, fun b hb => ⟨(h.keep b hb).1, Nat.lt_of_lt_of_le (h.keep b hb).2 hm.size⟩⟩, fun b hb => hm.block b (h.keep b hb).2 (by simp)⟩

theorem OT.op {w0 w w' : World} {tb mb : Nat} {lv : Value} {l l' : List Ck} {K : List Nat} {v : Value} {e : Ending} (h : OT w0 w tb mb lv l K) (hp : TabPost tb mb lv l' v w e w') :
    e = .returned v ∧ (∃ lv', OT w0 w' tb mb lv' l' K) ∧ Still K w w' ∧ (∀ rv r, Refs w rv r → Refs w' rv r) ∧ w.heap.size ≤ w'.heap.size := by
  obtain ⟨lv', h1, h2, h3, h4⟩ := hp
  have hs := h3.size
  refine ⟨h1, ⟨lv', h2, ?_, h.tb0, h.mb0, ?_, fun b hb => ⟨?_, Nat.lt_of_lt_of_le (h.keep b hb).2 hs⟩⟩, fun b hb => h3.block b (h.keep b hb).2 (h.keep b hb).1, fun rv r hr => hr.mod h3 h.tab.parts.2.2.1, hs⟩
  · refine h.mod.trans h3 (fun x hx => .inr ?_)
    simp only [foot, List.mem_cons, Option.mem_toList] at hx
    rcases hx with rfl | rfl | hx
    · exact h.tb0
    · exact h.mb0
    · exact h.lv0 x hx
  · exact h.lv0.or h4 (by have := h.mod.size; omega)
  · have hk := (h.keep b hb).1
    have hl := (h.keep b hb).2
    simp only [foot, List.mem_cons, Option.mem_toList, not_or] at hk ⊢
    refine ⟨hk.1, hk.2.1, ?_⟩
    rcases h4 with h4 | ⟨g, h4, h5⟩
    · rw [h4]; exact hk.2.2
    · rw [h4]; intro e; cases e; omega

/-- one block more that stays -/
theorem OT.more {w0 w : World} {tb mb : Nat} {lv : Value} {l : List Ck} {K : List Nat} (h : OT w0 w tb mb lv l K) {b : Nat} (hb : b ∉ foot tb mb lv) (hl : b < w.heap.size) : OT w0 w tb mb lv l (b :: K) :=
  ⟨h.tab, h.mod, h.tb0, h.mb0, h.lv0, fun x hx => by
    rcases List.mem_cons.1 hx with rfl | hx
    · exact ⟨hb, hl⟩
    · exact h.keep x hx⟩

theorem OT.new {w w' : World} {e : Ending} (h : NewPost w e w') : ∃ tb mb, e = .returned (.pointer (some ⟨tb, 0, none⟩)) ∧ OT w w' tb mb nilV [] [] := by
  obtain ⟨tb, mb, h1, h2, h3, h4, h5⟩ := h
  exact ⟨tb, mb, h1, h2, h3, h4, h5, FreshN.nil _, fun b hb => by simp at hb⟩

theorem Still.trans {K : List Nat} {a b c : World} (h : Still K a b) (h2 : Still K b c) : Still K a c := fun x hx => (h2 x hx).trans (h x hx)

def u0 : U3 := ⟨2, 1, 3⟩
def ckS : Ck := ⟨1, digOf 9, 7, u0, false, [(1, 1)]⟩
def ckT : Ck := ⟨1, digOf 9, 7, u0, false, [(0, 2), (1, 1)]⟩
def ckL : Ck := ⟨1, digOf 9, 7, zeroU, true, [(0, 2), (1, 1)]⟩
def ckM : Ck := ⟨1, digOf 9, 7, zeroU, true, [(0, 2)]⟩
theorem s_add : addL [] (digOf 9) 7 u0 1 = ([ckS], 1, 0) := by decide
theorem s_again : addL [ckS] (digOf 8) 7 u0 1 = ([ckS], 0, 20) := by decide
theorem s_refer : referL [ckS] 1 0 2 = ([ckT], 0) := by decide
theorem s_get : getC [ckT] 1 = some ckT := by decide
theorem s_at : atU [ckT] u0 = some 1 := by decide
theorem s_live : liveL [ckT] 2 1 = [1] := by decide
theorem s_count : countL [ckT] 0 = 2 := by decide
theorem s_lose : loseL [ckT] 1 = ([ckL], 0) := by decide
theorem s_lost : lostL [ckL] (digOf 9) = [1] := by decide
theorem s_un1 : unreferL [ckL] 1 1 1 = ([ckM], false, 0) := by decide
theorem s_un2 : unreferL [ckM] 1 0 2 = ([], true, 0) := by decide
theorem s_enc : encB [] = [128] := by decide

end Go.Proofs.Ytknkifanpppglaa
