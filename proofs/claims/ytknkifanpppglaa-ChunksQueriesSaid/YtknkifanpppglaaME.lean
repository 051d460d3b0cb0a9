/- Walks: the law's build. -/
import Derived.Test.YtknkifanpppglaaMD
import Derived.Test.YtknkifanpppglaaRows
import Derived.ProofKit
import Derived.OpenShut
import Derived.ChangeOld
import Derived.Below
import Derived.Deep.Slices
namespace Go.Proofs.Ytknkifanpppglaa
open Go.RowKit

/-- sv is a script that lies in memory -/
def ScriptAt (w : World) (sv : Value) (s : List Opn) : Prop :=
  s.length ≤ 9223372036854775807 ∧ ((s = [] ∧ ∃ a c, sv = .slice a 0 c) ∨ ∃ b off cap, sv = .slice (some ⟨b, off, none⟩) s.length cap ∧ ∀ k o, s[k]? = some o → Row w b (off + k * 9) o.cells)

theorem ScriptAt.mod0 {w w' : World} (hm : Mod [] w w') {sv : Value} {s : List Opn} (h : ScriptAt w sv s) : ScriptAt w' sv s := by
  refine ⟨h.1, ?_⟩
  rcases h.2 with h1 | ⟨b, off, cap, h1, h2⟩
  · exact .inl h1
  · exact .inr ⟨b, off, cap, h1, fun k o hk => (h2 k o hk).mod hm (by simp)⟩

theorem ScriptAt.slice {w : World} {sv : Value} {s : List Opn} (h : ScriptAt w sv s) : ∃ a c, sv = .slice a s.length c ∧ ∀ k o, s[k]? = some o → ∃ b off, a = some ⟨b, off, none⟩ ∧ Row w b (off + k * 9) o.cells := by
  rcases h.2 with ⟨rfl, a, c, rfl⟩ | ⟨b, off, cap, rfl, h2⟩
  · exact ⟨a, c, rfl, fun k o hk => by simp at hk⟩
  · exact ⟨_, _, rfl, fun k o hk => ⟨b, off, rfl, h2 k o hk⟩⟩

theorem infoOp : (Try.prog.info? 37).map (·.size) = some 9 := by kernel_rfl
theorem Opn.cells_len (o : Opn) : o.cells.length = 9 := rfl
def zeroOp : List Value := [.int .i64 0, .int .i64 0, .int .i64 0, .int .i64 0, .int .i64 0, .int .i64 0, .int .i64 0, .int .u8 0, .int .u32 0]
theorem oneCell_op (o : Opn) : ∀ u ∈ o.cells, u.oneCell' = true := by
  intro u hu
  simp [Opn.cells] at hu
  rcases hu with rfl | rfl | rfl | rfl | rfl | rfl | rfl | rfl | rfl <;> rfl

/-- an operation is stored into the block that was just laid -/
theorem store_op {w w' : World} {o : Opn} (hh : w'.heap[w.heap.size]? = some (.cells (splice zeroOp 0 o.cells).toArray 37 (0, 0))) (hs : Mod [w.heap.size] (w.alloc (.cells zeroOp.toArray 37)) w') :
    Row w' w.heap.size 0 o.cells ∧ Mod [] w w' := by
  rw [splice_all zeroOp o.cells rfl] at hh
  exact ⟨Row.of_heap hh, ((Mod.refl [] w).alloc _).trans hs (by simp)⟩

def BuildPost (s : List Opn) (w : World) (e : Ending) (w' : World) : Prop :=
  (120 < s.length ∧ e = .returned (.tuple #[.pointer none, .bool false]) ∧ Mod [] w w') ∨
  (s.length ≤ 120 ∧ ∃ tb mb lv, e = .returned (.tuple #[.pointer (some ⟨tb, 0, none⟩), .bool true]) ∧ OT w w' tb mb lv (opsL [] s) [])

set_option maxRecDepth 100000 in
set_option maxHeartbeats 1000000 in
theorem build_any (w : World) (sv : Value) (s : List Opn) (h : ScriptAt w sv s) : Calls Try.prog 13 #[sv] w (BuildPost s w) := by
  obtain ⟨a, c, rfl, hr⟩ := h.slice
  have hl := h.1
  obtain ⟨n, hn⟩ : ∃ n, s.length = n := ⟨_, rfl⟩
  rw [hn] at hl ⊢
  have HN := Lib.hid hn
  have HR := Lib.hid hr
  clear hn hr h
  by_cases hbig : 120 < n
  · have hg : (120 : Int) < (n : Int) := by omega
    go_enter Try.func13, Try.ntmps13
    go_wp2_with (go_at_call 29; refine (new_any _).mono ?_; rintro e w1 hnew; obtain ⟨tb, mb, rfl, o1⟩ := OT.new hnew; clear hnew)
    go_ret2
    exact .inl ⟨by rw [HN.out]; exact hbig, rfl, o1.mod⟩
  · have hg : ¬ (120 : Int) < (n : Int) := by omega
    go_enter Try.func13, Try.ntmps13
    go_wp2_with (go_at_call 29; refine (new_any _).mono ?_; rintro e w1 hnew; obtain ⟨tb, mb, rfl, o1⟩ := OT.new hnew; clear hnew)
    go_loopw [17] (fun s17 wr => ∃ k : Nat, k ≤ n ∧ s17 = .int .i64 k ∧ Hid (∃ lv, OT w wr tb mb lv (opsL [] (s.take k)) [])) (fun s17 _ => n - (intOf s17).toNat)
    case atStart => exact ⟨0, by omega, rfl, Lib.hid ⟨_, o1⟩⟩
    case round =>
      obtain ⟨k, hk, rfl, HS⟩ := hrel
      obtain ⟨lv, ot⟩ := HS.out
      by_cases hlt : k < n
      · obtain ⟨o, ho⟩ : ∃ o, s[k]? = some o := ⟨_, List.getElem?_eq_getElem (by have := HN.out; omega)⟩
        obtain ⟨b, off, rfl, hrow⟩ := HR.out k o ho
        have hrow1 := hrow.mod ot.mod (by simp)
        have htk := opsL_take [] s k o ho
        have HTk := Lib.hid htk
        clear ho hrow htk o1
        go_wp2_with (first | (refine wpList_load_at rfl 37 (.tmp 19) rfl _ Try.underlying37 rfl 9 infoOp b (off + k * 9) o.cells rfl hrow1 rfl ?_) | (refine wpList_store_at rfl 37 (.tmp 6) (.tmp 20) rfl 9 infoOp wr.heap.size 0 37 zeroOp o.cells rfl rfl (heap_alloc_at _ _) rfl (oneCell_op o) (Nat.le_refl 9) ?_; intro w2 hh2 hs2; obtain ⟨row2, hm2⟩ := store_op hh2 hs2; clear hh2 hs2) | (refine wpList_load_at rfl 37 (.tmp 6) rfl _ Try.underlying37 rfl 9 infoOp wr.heap.size 0 o.cells rfl row2 rfl ?_) | (go_at_call 30; refine (do_any w2 tb mb lv (opsL [] (s.take k)) o (ot.same hm2).1.tab).mono ?_; rintro e w3 hp3; obtain ⟨rfl, ot3, _, _, _⟩ := (ot.same hm2).1.op hp3; have HOT := Lib.hid ot3; clear ot3 hp3))
        go_roundw
        case rel => exact ⟨k + 1, by omega, by go_num, Lib.hid (by rw [HTk.out]; exact HOT.out)⟩
        case measure => simp [intOf]; omega
      · obtain rfl : k = n := by omega
        go_wp2
        go_ret2
        refine .inr ⟨by rw [HN.out]; omega, tb, mb, lv, rfl, ?_⟩
        rw [List.take_of_length_le (by have := HN.out; omega)] at ot
        exact ot

end Go.Proofs.Ytknkifanpppglaa

/- The law ChunksCounts: walks. -/
namespace Go.Proofs.Ytknkifanpppglaa
open Go.RowKit

theorem opL_inv {l : List Ck} (h : Inv l) (o : Opn) : Inv (opL l o).1 := by
  unfold opL
  split
  · unfold addL
    split
    · exact h
    · rename_i h1
      split
      · exact h
      · rename_i h2
        split
        · exact h
        · rename_i h3
          have hu : o.pos.ok = true := by revert h1; cases o.pos.ok <;> simp
          have ht : tenB o.tenant = true := by revert h1; cases tenB o.tenant <;> simp
          exact inv_add h hu ht (by simpa using h2) (by omega) (by simp [digOf])
  · split
    · unfold referL
      split
      · exact h
      · split
        · exact h
        · rename_i hb
          split
          · exact h
          · rename_i c hc
            split
            · exact h
            · rename_i htot
              have ha := argsBad_no (by simpa using hb)
              have hok := h.each c (List.mem_of_getElem? hc)
              have hh := held_bounds (fun x hx => (hok.ref1 x hx).2.2) o.tenant
              exact inv_refs h hc ⟨ha.1, ha.2.1⟩ (by omega) (with_ne (by omega)) (by omega)
    · split
      · unfold unreferL
        split
        · exact h
        · split
          · exact h
          · rename_i hb
            split
            · exact h
            · rename_i c hc
              have ha := argsBad_no (by simpa using hb)
              have hok := h.each c (List.mem_of_getElem? hc)
              split
              · exact h
              · rename_i hn
                split
                · rename_i hne
                  have := hok.tot
                  exact inv_refs h hc ⟨ha.1, ha.2.1⟩ (by omega) hne (by omega)
                · exact inv_erase h _
      · split
        · unfold moveL
          split
          · exact h
          · rename_i k hi
            split
            · exact h
            · rename_i hu
              split
              · exact h
              · rename_i hat
                split
                · exact h
                · rename_i c hc
                  have hid : c.id = o.id := by
                    obtain ⟨c', h1, h2, _⟩ := idxOf_some.1 hi
                    rw [hc] at h1; cases h1; exact h2
                  refine inv_move h hc (by revert hu; cases o.pos.ok <;> simp) (fun i hi => ?_)
                  rw [hi] at hat
                  simp at hat
                  rw [hat, hid]
        · split
          · unfold loseL
            split
            · exact h
            · split
              · exact h
              · rename_i c hc
                exact inv_lose h hc
          · exact h

theorem opsL_inv {l : List Ck} (h : Inv l) (s : List Opn) : Inv (opsL l s) := by
  induction s generalizing l with
  | nil => exact h
  | cons o s ih => exact ih (opL_inv h o)

def wantC (f : Int → Int) : List Value := (List.range 16).map fun (t : Nat) => .int .i64 (f (t : Int))
theorem wantC_len (f : Int → Int) : (wantC f).length = 16 := by simp [wantC]
theorem wantC_get (f : Int → Int) {t : Nat} (h : t < 16) : (wantC f)[t]? = some (.int .i64 (f t)) := by simp [wantC, h]
theorem wantC_congr {f g : Int → Int} (h : ∀ t : Nat, t < 16 → f t = g t) : wantC f = wantC g := by
  unfold wantC
  apply List.map_congr_left
  intro t ht
  rw [h t (by simpa using ht)]
theorem wantC_set (f : Int → Int) (t : Nat) (v : Int) (h : t < 16) : (wantC f).set t (.int .i64 v) = wantC (fun x => if x = t then v else f x) := by
  apply List.ext_getElem?
  intro j
  by_cases hj : j < 16
  · rw [List.getElem?_set, wantC_get f hj, wantC_len, wantC_get (fun x => if x = (t : Int) then v else f x) hj]
    by_cases e : t = j
    · subst e; simp [h]
    · rw [if_neg e, if_neg (by omega)]
  · rw [List.getElem?_eq_none (by simp [wantC]; omega), List.getElem?_eq_none (by simp [wantC]; omega)]

/-- nothing is counted -/
theorem want_same {l : List Ck} (h : Inv l) (o : Opn) (he : (opL l o).2.2 ≠ 0 ∨ o.tenant < 0 ∨ 15 < o.tenant ∨ (o.kind ≠ 1 ∧ o.kind ≠ 2 ∧ o.kind ≠ 3)) : wantC (countL (opL l o).1) = wantC (countL l) := by
  apply wantC_congr
  intro t ht
  rw [count_op h]
  rcases he with he | he | he | ⟨h1, h2, h3⟩
  · rw [if_neg (fun e => he e.1)]; omega
  · rw [if_neg (fun e => by omega)]; omega
  · rw [if_neg (fun e => by omega)]; omega
  · unfold gainO
    rw [if_neg h1, if_neg h2, if_neg h3]
    split <;> omega

theorem want_gain {l : List Ck} (h : Inv l) (o : Opn) (t : Nat) (ht : o.tenant = t) (ht' : t < 16) (he : (opL l o).2.2 = 0) : wantC (countL (opL l o).1) = (wantC (countL l)).set t (.int .i64 (countL l t + gainO o)) := by
  rw [wantC_set _ _ _ ht']
  apply wantC_congr
  intro j hj
  rw [count_op h, he, ht]
  by_cases e : (j : Int) = t
  · rw [if_pos ⟨rfl, e⟩, if_pos e, e]
  · rw [if_neg (fun x => e x.2), if_neg e]; omega

theorem count_range {l : List Ck} (h : Inv l) (t : Int) : 0 ≤ countL l t ∧ countL l t ≤ 140737488355328 := by
  have := count_take_bounds h.each (inv_len h) t l.length
  rwa [List.take_of_length_le (Nat.le_refl _)] at this

theorem OT.less {w0 w : World} {tb mb : Nat} {lv : Value} {l : List Ck} {K K' : List Nat} (h : OT w0 w tb mb lv l K) (hk : ∀ b ∈ K', b ∈ K) : OT w0 w tb mb lv l K' :=
  ⟨h.tab, h.mod, h.tb0, h.mb0, h.lv0, fun b hb => h.keep b (hk b hb)⟩

theorem OT.inv {w0 w : World} {tb mb : Nat} {lv : Value} {l : List Ck} {K : List Nat} (h : OT w0 w tb mb lv l K) : Inv l := h.tab.open.2.2.2.1

/-- a cell of a kept block is written -/
theorem OT.set {w0 w : World} {tb mb : Nat} {lv : Value} {l : List Ck} {K : List Nat} (h : OT w0 w tb mb lv l K) {wb : Nat} (hb : wb ∈ K) (h0 : w0.heap.size ≤ wb) {cur : Array Value} {t : TypeId} (hh : w.heap[wb]? = some (.cells cur t (0, 0))) (ht : t ≠ 113) (i : Nat) (v : Value) :
    OT w0 (w.setCell ⟨wb, i, none⟩ v) tb mb lv l K := by
  have hm : Mod [wb] w (w.setCell ⟨wb, i, none⟩ v) := (Mod.refl _ _).setCell _ _ (by simp)
  have hk := (h.keep wb hb).1
  simp only [foot, List.mem_cons, Option.mem_toList, not_or] at hk
  refine ⟨h.tab.mod hm (NoRefs.one hh ht) (by simpa using fun e => hk.1 e.symm) (by simpa using fun e => hk.2.1 e.symm) (fun b hbb => by simp; intro e; subst e; exact hk.2.2 hbb), h.mod.trans hm (by simpa using h0), h.tb0, h.mb0, h.lv0, fun b hb' => ⟨(h.keep b hb').1, Nat.lt_of_lt_of_le (h.keep b hb').2 hm.size⟩⟩

end Go.Proofs.Ytknkifanpppglaa

/- A script that came in as an argument is read. -/
namespace Go.Proofs.Ytknkifanpppglaa
open Go.ChangeShapes Go.WideShapes Go.ChangeAt Go.RowKit Go.Deep

theorem own : ownKnob Try.prog.godebug = none := by kernel_rfl
theorem laidOut : laidOutB Try.prog = true := by kernel_rfl

section
variable {H : Type} {enc : TypeId × Value → H} {w : World} {base : Nat} {spare : Nat → Bool} {held : Bool}

theorem get_some {α : Type} {xs : List α} {i n : Nat} (h : xs.length = n) (hi : i < n) : ∃ y, xs[i]? = some y := ⟨xs[i]'(by omega), List.getElem?_eq_getElem _⟩

theorem list2 {cs : List Value} (h : cs.length = 2) : ∃ c0 c1, cs = [c0, c1] := by
  match cs, h with
  | [c0, c1], _ => exact ⟨_, _, rfl⟩
theorem list3 {cs : List Value} (h : cs.length = 3) : ∃ c0 c1 c2, cs = [c0, c1, c2] := by
  match cs, h with
  | [c0, c1, c2], _ => exact ⟨_, _, _, rfl⟩
theorem list9 {cs : List Value} (h : cs.length = 9) : ∃ c0 c1 c2 c3 c4 c5 c6 c7 c8, cs = [c0, c1, c2, c3, c4, c5, c6, c7, c8] := by
  match cs, h with
  | [c0, c1, c2, c3, c4, c5, c6, c7, c8], _ => exact ⟨_, _, _, _, _, _, _, _, _, rfl⟩

theorem cells3 : Try.prog.cellsOf 3 = 1 := by kernel_rfl
theorem cells5 : Try.prog.cellsOf 5 = 1 := by kernel_rfl
theorem cells35 : Try.prog.cellsOf 35 = 1 := by kernel_rfl
theorem cells24 : Try.prog.cellsOf 24 = 2 := by kernel_rfl
theorem cells26 : Try.prog.cellsOf 26 = 3 := by kernel_rfl
theorem cells37 : Try.prog.cellsOf 37 = 9 := by kernel_rfl

theorem trod_stripe {n : Nat} {cs : List Value} {x : DataW H × List MemPlace} (h : DataW.trod enc Try.prog w base spare held n 24 cs = some x) :
    ∃ a b : Int, cs = [.int .i64 a, .int .i64 b] ∧ (Lit.int .i64 a).wf = true ∧ (Lit.int .i64 b).wf = true := by
  obtain ⟨xs, m, _, _, hl, hx, hf⟩ := DataW.trod_struct Try.underlying24 h
  rw [cells24] at hl
  obtain ⟨c0, c1, rfl⟩ := list2 hl
  obtain ⟨y0, e0⟩ := get_some (i := 0) hx (by decide)
  obtain ⟨y1, e1⟩ := get_some (i := 1) hx (by decide)
  have f0 : DataW.trod enc Try.prog w base spare held m 3 (([c0, c1].drop 0).take (Try.prog.cellsOf 3)) = xs[0]? := hf 0 _ rfl
  have f1 : DataW.trod enc Try.prog w base spare held m 3 (([c0, c1].drop 1).take (Try.prog.cellsOf 3)) = xs[1]? := hf 1 _ rfl
  simp only [cells3] at f0 f1
  obtain ⟨a, ha, _, wa⟩ := DataW.trod_int Try.underlying3 (f0.trans e0)
  obtain ⟨b, hb, _, wb⟩ := DataW.trod_int Try.underlying3 (f1.trans e1)
  simp at ha hb
  exact ⟨a, b, by rw [ha, hb], wa, wb⟩

theorem trod_unit {n : Nat} {cs : List Value} {x : DataW H × List MemPlace} (h : DataW.trod enc Try.prog w base spare held n 26 cs = some x) :
    ∃ u : U3, cs = u.cells ∧ (Lit.int .i64 u.row).wf = true ∧ (Lit.int .i64 u.group).wf = true ∧ (Lit.int .i64 u.unit).wf = true := by
  obtain ⟨xs, m, _, _, hl, hx, hf⟩ := DataW.trod_struct Try.underlying26 h
  rw [cells26] at hl
  obtain ⟨c0, c1, c2, rfl⟩ := list3 hl
  obtain ⟨y0, e0⟩ := get_some (i := 0) hx (by decide)
  obtain ⟨y1, e1⟩ := get_some (i := 1) hx (by decide)
  have f0 : DataW.trod enc Try.prog w base spare held m 24 (([c0, c1, c2].drop 0).take (Try.prog.cellsOf 24)) = xs[0]? := hf 0 _ rfl
  have f1 : DataW.trod enc Try.prog w base spare held m 3 (([c0, c1, c2].drop 2).take (Try.prog.cellsOf 3)) = xs[1]? := hf 1 _ rfl
  simp only [cells3, cells24] at f0 f1
  obtain ⟨a, b, hab, wa, wb⟩ := trod_stripe (f0.trans e0)
  obtain ⟨c, hc, _, wc⟩ := DataW.trod_int Try.underlying3 (f1.trans e1)
  simp at hab hc
  exact ⟨⟨a, b, c⟩, by rw [hab.1, hab.2, hc]; rfl, wa, wb, wc⟩

/-- what is known of an operation's numbers -/
structure OpnWf (o : Opn) : Prop where
  d : 0 ≤ o.d ∧ o.d < 256
  print : 0 ≤ o.print ∧ o.print < 4294967296

theorem trod_op {n : Nat} {cs : List Value} {x : DataW H × List MemPlace} (h : DataW.trod enc Try.prog w base spare held n 37 cs = some x) : ∃ o : Opn, cs = o.cells ∧ OpnWf o := by
  obtain ⟨xs, m, _, _, hl, hx, hf⟩ := DataW.trod_struct Try.underlying37 h
  rw [cells37] at hl
  obtain ⟨c0, c1, c2, c3, c4, c5, c6, c7, c8, rfl⟩ := list9 hl
  obtain ⟨y0, e0⟩ := get_some (i := 0) hx (by decide)
  obtain ⟨y1, e1⟩ := get_some (i := 1) hx (by decide)
  obtain ⟨y2, e2⟩ := get_some (i := 2) hx (by decide)
  obtain ⟨y3, e3⟩ := get_some (i := 3) hx (by decide)
  obtain ⟨y4, e4⟩ := get_some (i := 4) hx (by decide)
  obtain ⟨y5, e5⟩ := get_some (i := 5) hx (by decide)
  obtain ⟨y6, e6⟩ := get_some (i := 6) hx (by decide)
  have f0 : DataW.trod enc Try.prog w base spare held m 3 (([c0, c1, c2, c3, c4, c5, c6, c7, c8].drop 0).take (Try.prog.cellsOf 3)) = xs[0]? := hf 0 _ rfl
  have f1 : DataW.trod enc Try.prog w base spare held m 3 (([c0, c1, c2, c3, c4, c5, c6, c7, c8].drop 1).take (Try.prog.cellsOf 3)) = xs[1]? := hf 1 _ rfl
  have f2 : DataW.trod enc Try.prog w base spare held m 3 (([c0, c1, c2, c3, c4, c5, c6, c7, c8].drop 2).take (Try.prog.cellsOf 3)) = xs[2]? := hf 2 _ rfl
  have f3 : DataW.trod enc Try.prog w base spare held m 3 (([c0, c1, c2, c3, c4, c5, c6, c7, c8].drop 3).take (Try.prog.cellsOf 3)) = xs[3]? := hf 3 _ rfl
  have f4 : DataW.trod enc Try.prog w base spare held m 26 (([c0, c1, c2, c3, c4, c5, c6, c7, c8].drop 4).take (Try.prog.cellsOf 26)) = xs[4]? := hf 4 _ rfl
  have f5 : DataW.trod enc Try.prog w base spare held m 5 (([c0, c1, c2, c3, c4, c5, c6, c7, c8].drop 7).take (Try.prog.cellsOf 5)) = xs[5]? := hf 5 _ rfl
  have f6 : DataW.trod enc Try.prog w base spare held m 35 (([c0, c1, c2, c3, c4, c5, c6, c7, c8].drop 8).take (Try.prog.cellsOf 35)) = xs[6]? := hf 6 _ rfl
  simp only [cells3, cells26, cells5, cells35] at f0 f1 f2 f3 f4 f5 f6
  obtain ⟨a0, h0, _, _⟩ := DataW.trod_int Try.underlying3 (f0.trans e0)
  obtain ⟨a1, h1, _, _⟩ := DataW.trod_int Try.underlying3 (f1.trans e1)
  obtain ⟨a2, h2, _, _⟩ := DataW.trod_int Try.underlying3 (f2.trans e2)
  obtain ⟨a3, h3, _, _⟩ := DataW.trod_int Try.underlying3 (f3.trans e3)
  obtain ⟨u, h4, _⟩ := trod_unit (f4.trans e4)
  obtain ⟨a5, h5, _, w5⟩ := DataW.trod_int Try.underlying5 (f5.trans e5)
  obtain ⟨a6, h6, _, w6⟩ := DataW.trod_int Try.underlying35 (f6.trans e6)
  simp [U3.cells] at h0 h1 h2 h3 h4 h5 h6
  refine ⟨⟨a0, a1, a2, a3, u, a5, a6⟩, by rw [h0, h1, h2, h3, h4.1, h4.2.1, h4.2.2, h5, h6]; rfl, ?_, ?_⟩
  · simp [Lit.wf, IntKind.min, IntKind.max, IntKind.signed, IntKind.bits] at w5; simp only; omega
  · simp [Lit.wf, IntKind.min, IntKind.max, IntKind.signed, IntKind.bits] at w6; simp only; omega

/-- a choice for each number below n -/
theorem choose_list {α : Type} [Inhabited α] {p : Nat → α → Prop} : ∀ n : Nat, (∀ i, i < n → ∃ x, p i x) → ∃ l : List α, l.length = n ∧ ∀ i x, l[i]? = some x → p i x
  | 0, _ => ⟨[], rfl, fun i x h => by simp at h⟩
  | n + 1, h => by
    obtain ⟨l, hl, hp⟩ := choose_list n (fun i hi => h i (by omega))
    obtain ⟨x, hx⟩ := h n (by omega)
    refine ⟨l ++ [x], by simp [hl], fun i y hy => ?_⟩
    by_cases e : i < l.length
    · rw [List.getElem?_append_left e] at hy; exact hp i y hy
    · rw [List.getElem?_append_right (by omega)] at hy
      have : i - l.length = 0 := by
        rcases Nat.eq_zero_or_pos (i - l.length) with h0 | h0
        · exact h0
        · rw [List.getElem?_eq_none (by simp; omega)] at hy; cases hy
      rw [this] at hy
      simp at hy; subst hy
      have : i = n := by omega
      rw [this]; exact hx

instance : Inhabited Opn := ⟨⟨0, 0, 0, 0, zeroU, 0, 0⟩⟩

theorem open_script {fuel : Nat} {sv : Value} {x : DataW H × List MemPlace} (h : DataW.trod enc Try.prog w base spare held fuel 22 [sv] = some x) : ∃ s : List Opn, ScriptAt w sv s ∧ ∀ o ∈ s, OpnWf o := by
  rcases open_slice Try.underlying22 h with ⟨h0, _⟩ | ⟨a, len, cap, m, n, D, Pl, hcs, hb, hl, hm, hmm, _, hi⟩
  · simp at h0
    subst h0
    exact ⟨[], ⟨by simp, .inl ⟨rfl, _, _, rfl⟩⟩, fun o ho => by simp at ho⟩
  · simp at hcs
    subst hcs
    have hlm : len ≤ m := by rw [hmm]; split <;> omega
    obtain ⟨s, hs, hp⟩ := choose_list (p := fun i (o : Opn) => OpnWf o ∧ ∀ j u, o.cells[j]? = some u → w.cell? (a.add (i * 9 + j)) = some u) len (fun i hi' => by
      obtain ⟨cs', hc, ht⟩ := hi i (by omega)
      obtain ⟨o, ho, hwf⟩ := trod_op ht
      rw [cells37] at hc
      obtain ⟨_, hcl, hat⟩ := World.cells?_some hc
      refine ⟨o, hwf, fun j u hu => ?_⟩
      have hj : j < 9 := by have := (List.getElem?_eq_some_iff.1 hu).1; rwa [Opn.cells_len] at this
      have := hat j hj
      rw [← ho] at hu
      rw [Go.Deep.add_add] at this
      rw [this, hu])
    have hlen : s.length ≤ 9223372036854775807 := by unfold maxLen at hm; omega
    by_cases h0 : len = 0
    · subst h0
      have : s = [] := List.eq_nil_of_length_eq_zero hs
      subst this
      exact ⟨[], ⟨by simp, .inl ⟨rfl, _, _, rfl⟩⟩, fun o ho => by simp at ho⟩
    · obtain ⟨b, off, spot⟩ := a
      have hspot : spot = none := by
        obtain ⟨o, ho⟩ := get_some (i := 0) hs (by omega)
        have := (hp 0 o ho).2 0 _ rfl
        simpa [Addr.add] using World.cell?_spot this
      subst hspot
      refine ⟨s, ⟨hlen, .inr ⟨b, off, cap, by rw [hs], fun k o hk j u hu => ?_⟩⟩, fun o ho => ?_⟩
      · have := (hp k o hk).2 j u hu
        rw [addr_add] at this
        rwa [Nat.add_assoc]
      · obtain ⟨i, hi', rfl⟩ := List.getElem_of_mem ho
        exact (hp i _ (List.getElem?_eq_getElem hi')).1
end

end Go.Proofs.Ytknkifanpppglaa
