/- A script that came in as an argument is read. -/
import Derived.Test.YtknkifanpppglaaW32
import Derived.Test.YtknkifanpppglaaRows
import Derived.ProofKit
import Derived.OpenShut
import Derived.ChangeOld
import Derived.Below
import Derived.Deep.Slices
namespace Go.Proofs.Ytknkifanpppglaa
open Go.ChangeShapes Go.WideShapes Go.ChangeAt Go.RowKit Go.Deep

theorem own : ownKnob Try.prog.godebug = none := by kernel_rfl
theorem laidOut : laidOutB Try.prog = true := by kernel_rfl

section
variable {H : Type} {enc : TypeId × Value → H} {w : World} {base : Nat} {spare : Nat → Bool} {held : Bool}

theorem get_some {α : Type} {xs : List α} {i n : Nat} (h : xs.length = n) (hi : i < n) : ∃ y, xs[i]? = some y := ⟨xs[i]'(by omega), List.getElem?_eq_getElem _⟩

theorem list2 {cs : List Value} (h : cs.length = 2) : ∃ c0 c1, cs = [c0, c1] := by
  match cs, h with
  | [c0, c1], _ => exact ⟨_, _, rfl⟩
theorem list3 {cs : List Value} (h : cs.length = 3) : ∃ c0 c1 c2, cs = [c0, c1, c2] := by
  match cs, h with
  | [c0, c1, c2], _ => exact ⟨_, _, _, rfl⟩
theorem list9 {cs : List Value} (h : cs.length = 9) : ∃ c0 c1 c2 c3 c4 c5 c6 c7 c8, cs = [c0, c1, c2, c3, c4, c5, c6, c7, c8] := by
  match cs, h with
  | [c0, c1, c2, c3, c4, c5, c6, c7, c8], _ => exact ⟨_, _, _, _, _, _, _, _, _, rfl⟩

theorem cells3 : Try.prog.cellsOf 3 = 1 := by kernel_rfl
theorem cells5 : Try.prog.cellsOf 5 = 1 := by kernel_rfl
theorem cells35 : Try.prog.cellsOf 35 = 1 := by kernel_rfl
theorem cells24 : Try.prog.cellsOf 24 = 2 := by kernel_rfl
theorem cells26 : Try.prog.cellsOf 26 = 3 := by kernel_rfl
theorem cells37 : Try.prog.cellsOf 37 = 9 := by kernel_rfl

theorem trod_stripe {n : Nat} {cs : List Value} {x : DataW H × List MemPlace} (h : DataW.trod enc Try.prog w base spare held n 24 cs = some x) :
    ∃ a b : Int, cs = [.int .i64 a, .int .i64 b] ∧ (Lit.int .i64 a).wf = true ∧ (Lit.int .i64 b).wf = true := by
  obtain ⟨xs, m, _, _, hl, hx, hf⟩ := DataW.trod_struct Try.underlying24 h
  rw [cells24] at hl
  obtain ⟨c0, c1, rfl⟩ := list2 hl
  obtain ⟨y0, e0⟩ := get_some (i := 0) hx (by decide)
  obtain ⟨y1, e1⟩ := get_some (i := 1) hx (by decide)
  have f0 : DataW.trod enc Try.prog w base spare held m 3 (([c0, c1].drop 0).take (Try.prog.cellsOf 3)) = xs[0]? := hf 0 _ rfl
  have f1 : DataW.trod enc Try.prog w base spare held m 3 (([c0, c1].drop 1).take (Try.prog.cellsOf 3)) = xs[1]? := hf 1 _ rfl
  simp only [cells3] at f0 f1
  obtain ⟨a, ha, _, wa⟩ := DataW.trod_int Try.underlying3 (f0.trans e0)
  obtain ⟨b, hb, _, wb⟩ := DataW.trod_int Try.underlying3 (f1.trans e1)
  simp at ha hb
  exact ⟨a, b, by rw [ha, hb], wa, wb⟩

theorem trod_unit {n : Nat} {cs : List Value} {x : DataW H × List MemPlace} (h : DataW.trod enc Try.prog w base spare held n 26 cs = some x) :
    ∃ u : U3, cs = u.cells ∧ (Lit.int .i64 u.row).wf = true ∧ (Lit.int .i64 u.group).wf = true ∧ (Lit.int .i64 u.unit).wf = true := by
  obtain ⟨xs, m, _, _, hl, hx, hf⟩ := DataW.trod_struct Try.underlying26 h
  rw [cells26] at hl
  obtain ⟨c0, c1, c2, rfl⟩ := list3 hl
  obtain ⟨y0, e0⟩ := get_some (i := 0) hx (by decide)
  obtain ⟨y1, e1⟩ := get_some (i := 1) hx (by decide)
  have f0 : DataW.trod enc Try.prog w base spare held m 24 (([c0, c1, c2].drop 0).take (Try.prog.cellsOf 24)) = xs[0]? := hf 0 _ rfl
  have f1 : DataW.trod enc Try.prog w base spare held m 3 (([c0, c1, c2].drop 2).take (Try.prog.cellsOf 3)) = xs[1]? := hf 1 _ rfl
  simp only [cells3, cells24] at f0 f1
  obtain ⟨a, b, hab, wa, wb⟩ := trod_stripe (f0.trans e0)
  obtain ⟨c, hc, _, wc⟩ := DataW.trod_int Try.underlying3 (f1.trans e1)
  simp at hab hc
  exact ⟨⟨a, b, c⟩, by rw [hab.1, hab.2, hc]; rfl, wa, wb, wc⟩

/-- what is known of an operation's numbers -/
structure OpnWf (o : Opn) : Prop where
  d : 0 ≤ o.d ∧ o.d < 256
  print : 0 ≤ o.print ∧ o.print < 4294967296

theorem trod_op {n : Nat} {cs : List Value} {x : DataW H × List MemPlace} (h : DataW.trod enc Try.prog w base spare held n 37 cs = some x) : ∃ o : Opn, cs = o.cells ∧ OpnWf o := by
  obtain ⟨xs, m, _, _, hl, hx, hf⟩ := DataW.trod_struct Try.underlying37 h
  rw [cells37] at hl
  obtain ⟨c0, c1, c2, c3, c4, c5, c6, c7, c8, rfl⟩ := list9 hl
  obtain ⟨y0, e0⟩ := get_some (i := 0) hx (by decide)
  obtain ⟨y1, e1⟩ := get_some (i := 1) hx (by decide)
  obtain ⟨y2, e2⟩ := get_some (i := 2) hx (by decide)
  obtain ⟨y3, e3⟩ := get_some (i := 3) hx (by decide)
  obtain ⟨y4, e4⟩ := get_some (i := 4) hx (by decide)
  obtain ⟨y5, e5⟩ := get_some (i := 5) hx (by decide)
  obtain ⟨y6, e6⟩ := get_some (i := 6) hx (by decide)
  have f0 : DataW.trod enc Try.prog w base spare held m 3 (([c0, c1, c2, c3, c4, c5, c6, c7, c8].drop 0).take (Try.prog.cellsOf 3)) = xs[0]? := hf 0 _ rfl
  have f1 : DataW.trod enc Try.prog w base spare held m 3 (([c0, c1, c2, c3, c4, c5, c6, c7, c8].drop 1).take (Try.prog.cellsOf 3)) = xs[1]? := hf 1 _ rfl
  have f2 : DataW.trod enc Try.prog w base spare held m 3 (([c0, c1, c2, c3, c4, c5, c6, c7, c8].drop 2).take (Try.prog.cellsOf 3)) = xs[2]? := hf 2 _ rfl
  have f3 : DataW.trod enc Try.prog w base spare held m 3 (([c0, c1, c2, c3, c4, c5, c6, c7, c8].drop 3).take (Try.prog.cellsOf 3)) = xs[3]? := hf 3 _ rfl
  have f4 : DataW.trod enc Try.prog w base spare held m 26 (([c0, c1, c2, c3, c4, c5, c6, c7, c8].drop 4).take (Try.prog.cellsOf 26)) = xs[4]? := hf 4 _ rfl
  have f5 : DataW.trod enc Try.prog w base spare held m 5 (([c0, c1, c2, c3, c4, c5, c6, c7, c8].drop 7).take (Try.prog.cellsOf 5)) = xs[5]? := hf 5 _ rfl
  have f6 : DataW.trod enc Try.prog w base spare held m 35 (([c0, c1, c2, c3, c4, c5, c6, c7, c8].drop 8).take (Try.prog.cellsOf 35)) = xs[6]? := hf 6 _ rfl
  simp only [cells3, cells26, cells5, cells35] at f0 f1 f2 f3 f4 f5 f6
  obtain ⟨a0, h0, _, _⟩ := DataW.trod_int Try.underlying3 (f0.trans e0)
  obtain ⟨a1, h1, _, _⟩ := DataW.trod_int Try.underlying3 (f1.trans e1)
  obtain ⟨a2, h2, _, _⟩ := DataW.trod_int Try.underlying3 (f2.trans e2)
  obtain ⟨a3, h3, _, _⟩ := DataW.trod_int Try.underlying3 (f3.trans e3)
  obtain ⟨u, h4, _⟩ := trod_unit (f4.trans e4)
  obtain ⟨a5, h5, _, w5⟩ := DataW.trod_int Try.underlying5 (f5.trans e5)
  obtain ⟨a6, h6, _, w6⟩ := DataW.trod_int Try.underlying35 (f6.trans e6)
  simp [U3.cells] at h0 h1 h2 h3 h4 h5 h6
  refine ⟨⟨a0, a1, a2, a3, u, a5, a6⟩, by rw [h0, h1, h2, h3, h4.1, h4.2.1, h4.2.2, h5, h6]; rfl, ?_, ?_⟩
  · simp [Lit.wf, IntKind.min, IntKind.max, IntKind.signed, IntKind.bits] at w5; simp only; omega
  · simp [Lit.wf, IntKind.min, IntKind.max, IntKind.signed, IntKind.bits] at w6; simp only; omega

/-- a choice for each number below n -/
theorem choose_list {α : Type} [Inhabited α] {p : Nat → α → Prop} : ∀ n : Nat, (∀ i, i < n → ∃ x, p i x) → ∃ l : List α, l.length = n ∧ ∀ i x, l[i]? = some x → p i x
  | 0, _ => ⟨[], rfl, fun i x h => by simp at h⟩
  | n + 1, h => by
    obtain ⟨l, hl, hp⟩ := choose_list n (fun i hi => h i (by omega))
    obtain ⟨x, hx⟩ := h n (by omega)
    refine ⟨l ++ [x], by simp [hl], fun i y hy => ?_⟩
    by_cases e : i < l.length
    · rw [List.getElem?_append_left e] at hy; exact hp i y hy
    · rw [List.getElem?_append_right (by omega)] at hy
      have : i - l.length = 0 := by
        rcases Nat.eq_zero_or_pos (i - l.length) with h0 | h0
        · exact h0
        · rw [List.getElem?_eq_none (by simp; omega)] at hy; cases hy
      rw [this] at hy
      simp at hy; subst hy
      have : i = n := by omega
      rw [this]; exact hx

instance : Inhabited Opn := ⟨⟨0, 0, 0, 0, zeroU, 0, 0⟩⟩

theorem open_script {fuel : Nat} {sv : Value} {x : DataW H × List MemPlace} (h : DataW.trod enc Try.prog w base spare held fuel 22 [sv] = some x) : ∃ s : List Opn, ScriptAt w sv s ∧ ∀ o ∈ s, OpnWf o := by
  rcases open_slice Try.underlying22 h with ⟨h0, _⟩ | ⟨a, len, cap, m, n, D, Pl, hcs, hb, hl, hm, hmm, _, hi⟩
  · simp at h0
    subst h0
    exact ⟨[], ⟨by simp, .inl ⟨rfl, _, _, rfl⟩⟩, fun o ho => by simp at ho⟩
  · simp at hcs
    subst hcs
    have hlm : len ≤ m := by rw [hmm]; split <;> omega
    obtain ⟨s, hs, hp⟩ := choose_list (p := fun i (o : Opn) => OpnWf o ∧ ∀ j u, o.cells[j]? = some u → w.cell? (a.add (i * 9 + j)) = some u) len (fun i hi' => by
      obtain ⟨cs', hc, ht⟩ := hi i (by omega)
      obtain ⟨o, ho, hwf⟩ := trod_op ht
      rw [cells37] at hc
      obtain ⟨_, hcl, hat⟩ := World.cells?_some hc
      refine ⟨o, hwf, fun j u hu => ?_⟩
      have hj : j < 9 := by have := (List.getElem?_eq_some_iff.1 hu).1; rwa [Opn.cells_len] at this
      have := hat j hj
      rw [← ho] at hu
      rw [Go.Deep.add_add] at this
      rw [this, hu])
    have hlen : s.length ≤ 9223372036854775807 := by unfold maxLen at hm; omega
    by_cases h0 : len = 0
    · subst h0
      have : s = [] := List.eq_nil_of_length_eq_zero hs
      subst this
      exact ⟨[], ⟨by simp, .inl ⟨rfl, _, _, rfl⟩⟩, fun o ho => by simp at ho⟩
    · obtain ⟨b, off, spot⟩ := a
      have hspot : spot = none := by
        obtain ⟨o, ho⟩ := get_some (i := 0) hs (by omega)
        have := (hp 0 o ho).2 0 _ rfl
        simpa [Addr.add] using World.cell?_spot this
      subst hspot
      refine ⟨s, ⟨hlen, .inr ⟨b, off, cap, by rw [hs], fun k o hk j u hu => ?_⟩⟩, fun o ho => ?_⟩
      · have := (hp k o hk).2 j u hu
        rw [addr_add] at this
        rwa [Nat.add_assoc]
      · obtain ⟨i, hi', rfl⟩ := List.getElem_of_mem ho
        exact (hp i _ (List.getElem?_eq_getElem hi')).1
end

end Go.Proofs.Ytknkifanpppglaa
