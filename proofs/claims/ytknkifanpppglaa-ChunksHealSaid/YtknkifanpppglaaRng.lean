/- What can be encoded stays so; two tables on one heap. -/
import Derived.Test.YtknkifanpppglaaME
import Derived.Test.YtknkifanpppglaaMB
import Derived.Laws.BytesArg
namespace Go.Proofs.Ytknkifanpppglaa
open Go.RowKit

def AllRng (l : List Ck) : Prop := ∀ c ∈ l, Rng c

theorem AllRng.set {l : List Ck} (h : AllRng l) {k : Nat} {c : Ck} (hc : Rng c) : AllRng (l.set k c) := fun d hd => by
  rcases List.mem_or_eq_of_mem_set hd with h1 | h1
  · exact h d h1
  · rw [h1]; exact hc

theorem rng_add {l : List Ck} (h : AllRng l) (d : List Int) (p : Int) (u : U3) (t : Int) (hd : ∀ x ∈ d, 0 ≤ x ∧ x < 256) (hp : 0 ≤ p ∧ p < 4294967296) : AllRng (addL l d p u t).1 := by
  unfold addL
  split
  · exact h
  · split
    · exact h
    · split
      · exact h
      · intro c hc
        simp only [List.mem_append, List.mem_cons] at hc
        rcases hc with hc | rfl | hc
        · exact h c (List.mem_of_mem_take hc)
        · exact ⟨hp, hd⟩
        · exact h c (List.mem_of_mem_drop hc)

theorem rng_refer {l : List Ck} (h : AllRng l) (id t n : Int) : AllRng (referL l id t n).1 := by
  unfold referL
  split
  · exact h
  · split
    · exact h
    · split
      · exact h
      · rename_i c hk
        split
        · exact h
        · exact h.set ⟨(h c (List.mem_of_getElem? hk)).print, (h c (List.mem_of_getElem? hk)).dig⟩

theorem rng_unrefer {l : List Ck} (h : AllRng l) (id t n : Int) : AllRng (unreferL l id t n).1 := by
  unfold unreferL
  split
  · exact h
  · split
    · exact h
    · split
      · exact h
      · rename_i c hk
        split
        · exact h
        · split
          · exact h.set ⟨(h c (List.mem_of_getElem? hk)).print, (h c (List.mem_of_getElem? hk)).dig⟩
          · exact fun c hc => h c (List.mem_of_mem_eraseIdx hc)

theorem rng_move {l : List Ck} (h : AllRng l) (id : Int) (u : U3) : AllRng (moveL l id u).1 := by
  unfold moveL
  split
  · exact h
  · split
    · exact h
    · split
      · exact h
      · split
        · exact h
        · rename_i c hk
          exact h.set ⟨(h c (List.mem_of_getElem? hk)).print, (h c (List.mem_of_getElem? hk)).dig⟩

theorem rng_lose {l : List Ck} (h : AllRng l) (id : Int) : AllRng (loseL l id).1 := by
  unfold loseL
  split
  · exact h
  · split
    · exact h
    · rename_i c hk
      exact h.set ⟨(h c (List.mem_of_getElem? hk)).print, (h c (List.mem_of_getElem? hk)).dig⟩

theorem rng_op {l : List Ck} (h : AllRng l) {o : Opn} (ho : OpnWf o) : AllRng (opL l o).1 := by
  unfold opL
  split
  · exact rng_add h _ _ _ _ (fun x hx => by rw [List.eq_of_mem_replicate hx]; exact ho.d) ho.print
  · split
    · exact rng_refer h _ _ _
    · split
      · exact rng_unrefer h _ _ _
      · split
        · exact rng_move h _ _
        · split
          · exact rng_lose h _
          · exact h

theorem rng_ops {l : List Ck} (h : AllRng l) : ∀ {s : List Opn}, (∀ o ∈ s, OpnWf o) → AllRng (opsL l s) := by
  intro s
  unfold opsL
  induction s generalizing l with
  | nil => intro _; exact h
  | cons o s ih => intro hs; exact ih (rng_op h (hs o (by simp))) (fun o' ho' => hs o' (by simp [ho']))

theorem rng_nil : AllRng [] := fun c hc => by simp at hc

theorem conv_bytes {w : World} {v : Value} {xs : List Int} (h : Bytes w v xs) : (convert 70 9 v).run Try.prog w = .ok (.string (strOfNums xs)) w := by
  rcases Own.shape h with ⟨rfl, h2⟩ | ⟨b, cap, cur, rfl, h3, h4, h5, h6, h7, h8⟩
  · have : xs = [] := by simpa using h2
    subst this
    exact run_convert_bytes_nil w _ _ Try.underlying70 Try.underlying5 0 0 _ Try.underlying9
  · rw [List.length_map]
    refine run_convert_bytes_arg w _ _ Try.underlying70 Try.underlying5 b 0 xs.length cap xs rfl (fun i hi => ?_) _ Try.underlying9
    have hx : xs[i]? = some (xs.getD i 0) := by simp [List.getD, List.getElem?_eq_getElem hi]
    have := Own.row h i [.int .u8 (xs.getD i 0)] (by rw [List.getElem?_map, hx]; rfl) 0 _ rfl
    simpa using this

/-- two tables on one heap, both made by the call -/
structure Two (w0 w : World) (tb mb : Nat) (lv : Value) (l : List Ck) (cb nb : Nat) (cv : Value) (m : List Ck) : Prop where
  t : Tab w tb mb lv l
  c : Tab w cb nb cv m
  dis : ∀ x ∈ foot tb mb lv, x ∉ foot cb nb cv
  mod : Mod [] w0 w
  t0 : ∀ x ∈ foot tb mb lv, w0.heap.size ≤ x
  c0 : ∀ x ∈ foot cb nb cv, w0.heap.size ≤ x

theorem Two.swap {w0 w : World} {tb mb cb nb : Nat} {lv cv : Value} {l m : List Ck} (h : Two w0 w tb mb lv l cb nb cv m) : Two w0 w cb nb cv m tb mb lv l :=
  ⟨h.c, h.t, fun x hx hy => h.dis x hy hx, h.mod, h.c0, h.t0⟩

theorem Two.mod0 {w0 w w' : World} {tb mb cb nb : Nat} {lv cv : Value} {l m : List Ck} (h : Two w0 w tb mb lv l cb nb cv m) (hm : Mod [] w w') : Two w0 w' tb mb lv l cb nb cv m :=
  ⟨h.t.mod0 hm, h.c.mod0 hm, h.dis, h.mod.trans_nil hm, h.t0, h.c0⟩

theorem foot_lt {w : World} {tb mb : Nat} {lv : Value} {l : List Ck} (h : Tab w tb mb lv l) : ∀ x ∈ foot tb mb lv, x < w.heap.size := by
  obtain ⟨p1, p2, p3, p4, p5, p6⟩ := h.parts
  intro x hm
  simp only [foot, List.mem_cons, Option.mem_toList] at hm
  rcases hm with rfl | rfl | hm
  · exact p4
  · exact p5
  · exact p6 x hm

/-- an operation on the second one -/
theorem Two.op {w0 w w' : World} {tb mb cb nb : Nat} {lv cv : Value} {l m m' : List Ck} {v : Value} {e : Ending} (h : Two w0 w tb mb lv l cb nb cv m) (hp : TabPost cb nb cv m' v w e w') :
    e = .returned v ∧ ∃ cv', Two w0 w' tb mb lv l cb nb cv' m' := by
  obtain ⟨cv', h1, h2, h3, h4⟩ := hp
  have hs := h3.size
  have hs0 := h.mod.size
  have ht := foot_lt h.t
  have hn : ∀ x ∈ foot cb nb cv', x ∈ foot cb nb cv ∨ w.heap.size ≤ x := by
    intro x hx
    simp only [foot, List.mem_cons, Option.mem_toList] at hx ⊢
    rcases hx with rfl | rfl | hx
    · exact .inl (.inl rfl)
    · exact .inl (.inr (.inl rfl))
    · rcases h4 with h4 | ⟨g, h4, h5⟩
      · rw [h4] at hx; exact .inl (.inr (.inr hx))
      · rw [h4] at hx; simp at hx; subst hx; exact .inr h5
  refine ⟨h1, cv', ⟨h.t.mod h3 h.c.parts.2.2.1 (h.dis _ (by simp [foot])) (h.dis _ (by simp [foot])) (fun b hb => h.dis b (by simp [foot, hb])), h2, ?_, ?_, h.t0, ?_⟩⟩
  · intro x hx hy
    rcases hn x hy with h5 | h5
    · exact h.dis x hx h5
    · have := ht x hx; omega
  · exact h.mod.trans h3 (fun x hx => .inr (h.c0 x hx))
  · intro x hx
    rcases hn x hx with h5 | h5
    · exact h.c0 x h5
    · omega

/-- a table of the call's own and its clone -/
theorem Two.clone {w0 w w' : World} {tb mb : Nat} {lv : Value} {l : List Ck} {K : List Nat} {e : Ending} (h : OT w0 w tb mb lv l K) (hp : ClonePost l w e w') :
    ∃ cb nb cv, e = .returned (.pointer (some ⟨cb, 0, none⟩)) ∧ Two w0 w' tb mb lv l cb nb cv l := by
  obtain ⟨cb, nb, cv, h1, h2, h3, h4, h5, h6⟩ := hp
  have ht := foot_lt h.tab
  have hs0 := h.mod.size
  have hc : ∀ x ∈ foot cb nb cv, w.heap.size ≤ x := by
    intro x hx
    simp only [foot, List.mem_cons, Option.mem_toList] at hx
    rcases hx with rfl | rfl | hx
    · exact h4
    · exact h5
    · exact h6 x hx
  refine ⟨cb, nb, cv, h1, h.tab.mod0 h3, h2, fun x hx hy => ?_, h.mod.trans_nil h3, fun x hx => ?_, fun x hx => Nat.le_trans hs0 (hc x hx)⟩
  · have := ht x hx; have := hc x hy; omega
  · simp only [foot, List.mem_cons, Option.mem_toList] at hx
    rcases hx with rfl | rfl | hx
    · exact h.tb0
    · exact h.mb0
    · exact h.lv0 x hx

end Go.Proofs.Ytknkifanpppglaa
