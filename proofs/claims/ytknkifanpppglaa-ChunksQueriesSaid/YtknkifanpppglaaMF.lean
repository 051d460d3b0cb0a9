/- The law ChunksCounts returns true for every script. -/
import Derived.Test.YtknkifanpppglaaME
import Derived.Test.YtknkifanpppglaaMB
import Derived.Laws.BytesArg
import Derived.Test.YtknkifanpppglaaMD
import Derived.Deep.RegionHeld3
import Derived.Deep.DeepCutAuto
import Derived.StillTailTactics
import Derived.Test.YtknkifanpppglaaMA
namespace Go.Proofs.Ytknkifanpppglaa
open Go.RowKit

theorem infoInt : (Try.prog.info? 3).map (·.size) = some 1 := by kernel_rfl

def CountSt (w0 w : World) (tb mb wb : Nat) (l : List Ck) : Prop := ∃ lv, OT w0 w tb mb lv l [wb] ∧ w.heap[wb]? = some (.cells (wantC (countL l)).toArray 59 (0, 0))

theorem CountSt.drew {w0 w : World} {tb mb wb : Nat} {l : List Ck} (h : CountSt w0 w tb mb wb l) : CountSt w0 w.drew tb mb wb l := by
  obtain ⟨lv, h1, h2⟩ := h
  exact ⟨lv, (h1.same ((Mod.refl [] w).drew)).1, h2⟩

theorem run_iw0 (f : Int → Int) (w : World) : (Instr.index 59 (.agg (wantC f).toArray) (.int .i64 0)).run Try.prog w = .ok (.int .i64 (f 0)) w := by kernel_rfl
theorem run_iw1 (f : Int → Int) (w : World) : (Instr.index 59 (.agg (wantC f).toArray) (.int .i64 1)).run Try.prog w = .ok (.int .i64 (f 1)) w := by kernel_rfl
theorem run_iw2 (f : Int → Int) (w : World) : (Instr.index 59 (.agg (wantC f).toArray) (.int .i64 2)).run Try.prog w = .ok (.int .i64 (f 2)) w := by kernel_rfl
theorem run_iw3 (f : Int → Int) (w : World) : (Instr.index 59 (.agg (wantC f).toArray) (.int .i64 3)).run Try.prog w = .ok (.int .i64 (f 3)) w := by kernel_rfl
theorem run_iw4 (f : Int → Int) (w : World) : (Instr.index 59 (.agg (wantC f).toArray) (.int .i64 4)).run Try.prog w = .ok (.int .i64 (f 4)) w := by kernel_rfl
theorem run_iw5 (f : Int → Int) (w : World) : (Instr.index 59 (.agg (wantC f).toArray) (.int .i64 5)).run Try.prog w = .ok (.int .i64 (f 5)) w := by kernel_rfl
theorem run_iw6 (f : Int → Int) (w : World) : (Instr.index 59 (.agg (wantC f).toArray) (.int .i64 6)).run Try.prog w = .ok (.int .i64 (f 6)) w := by kernel_rfl
theorem run_iw7 (f : Int → Int) (w : World) : (Instr.index 59 (.agg (wantC f).toArray) (.int .i64 7)).run Try.prog w = .ok (.int .i64 (f 7)) w := by kernel_rfl
theorem run_iw8 (f : Int → Int) (w : World) : (Instr.index 59 (.agg (wantC f).toArray) (.int .i64 8)).run Try.prog w = .ok (.int .i64 (f 8)) w := by kernel_rfl
theorem run_iw9 (f : Int → Int) (w : World) : (Instr.index 59 (.agg (wantC f).toArray) (.int .i64 9)).run Try.prog w = .ok (.int .i64 (f 9)) w := by kernel_rfl
theorem run_iw10 (f : Int → Int) (w : World) : (Instr.index 59 (.agg (wantC f).toArray) (.int .i64 10)).run Try.prog w = .ok (.int .i64 (f 10)) w := by kernel_rfl
theorem run_iw11 (f : Int → Int) (w : World) : (Instr.index 59 (.agg (wantC f).toArray) (.int .i64 11)).run Try.prog w = .ok (.int .i64 (f 11)) w := by kernel_rfl
theorem run_iw12 (f : Int → Int) (w : World) : (Instr.index 59 (.agg (wantC f).toArray) (.int .i64 12)).run Try.prog w = .ok (.int .i64 (f 12)) w := by kernel_rfl
theorem run_iw13 (f : Int → Int) (w : World) : (Instr.index 59 (.agg (wantC f).toArray) (.int .i64 13)).run Try.prog w = .ok (.int .i64 (f 13)) w := by kernel_rfl
theorem run_iw14 (f : Int → Int) (w : World) : (Instr.index 59 (.agg (wantC f).toArray) (.int .i64 14)).run Try.prog w = .ok (.int .i64 (f 14)) w := by kernel_rfl
theorem run_iw15 (f : Int → Int) (w : World) : (Instr.index 59 (.agg (wantC f).toArray) (.int .i64 15)).run Try.prog w = .ok (.int .i64 (f 15)) w := by kernel_rfl
theorem run_index_want (f : Int → Int) (k : Nat) (h : k < 16) (w : World) : (Instr.index 59 (.agg (wantC f).toArray) (.int .i64 k)).run Try.prog w = .ok (.int .i64 (f k)) w := by
  have hc : k = 0 ∨ k = 1 ∨ k = 2 ∨ k = 3 ∨ k = 4 ∨ k = 5 ∨ k = 6 ∨ k = 7 ∨ k = 8 ∨ k = 9 ∨ k = 10 ∨ k = 11 ∨ k = 12 ∨ k = 13 ∨ k = 14 ∨ k = 15 := by omega
  rcases hc with rfl | rfl | rfl | rfl | rfl | rfl | rfl | rfl | rfl | rfl | rfl | rfl | rfl | rfl | rfl | rfl
  · exact run_iw0 f w
  · exact run_iw1 f w
  · exact run_iw2 f w
  · exact run_iw3 f w
  · exact run_iw4 f w
  · exact run_iw5 f w
  · exact run_iw6 f w
  · exact run_iw7 f w
  · exact run_iw8 f w
  · exact run_iw9 f w
  · exact run_iw10 f w
  · exact run_iw11 f w
  · exact run_iw12 f w
  · exact run_iw13 f w
  · exact run_iw14 f w
  · exact run_iw15 f w

theorem infoArr : (Try.prog.info? 59).map (·.size) = some 16 := by kernel_rfl

theorem count_gain {w0 w3 : World} {tb mb wb xb t : Nat} {lv3 : Value} {l : List Ck} {o : Opn} {v : Int} (ot : OT w0 w3 tb mb lv3 (opL l o).1 [xb, wb]) (hinv : Inv l) (ht : o.tenant = t) (ht16 : t < 16) (he : (opL l o).2.2 = 0)
    (hwb : w3.heap[wb]? = some (.cells (wantC (countL l)).toArray 59 (0, 0))) (hw0 : w0.heap.size ≤ wb) (hv : v = countL l t + gainO o) :
    CountSt w0 (w3.setCell ⟨wb, t, none⟩ (.int .i64 v)) tb mb wb (opL l o).1 := by
  refine ⟨lv3, (ot.set (by simp) hw0 hwb (by decide) _ _).less (by simp), ?_⟩
  rw [heap_setCell_same _ _ _ _ _ _ hwb, want_gain hinv o t ht ht16 he, hv]
  simp

set_option maxRecDepth 100000 in
set_option maxHeartbeats 4000000 in
theorem counts_any (w : World) (sv : Value) (s : List Opn) (h : ScriptAt w sv s) : Calls Try.prog 4 #[sv] w (BoolPost true w) := by
  obtain ⟨a, c, rfl, hr⟩ := h.slice
  have hl := h.1
  obtain ⟨n, hn⟩ : ∃ n, s.length = n := ⟨_, rfl⟩
  rw [hn] at hl ⊢
  have HN := Lib.hid hn
  have HR := Lib.hid hr
  clear hn hr h
  by_cases hbig : 120 < n
  · have hg : (120 : Int) < (n : Int) := by omega
    go_enter Try.func4, Try.ntmps4
    go_wp2_with (first | (go_at_call 29; refine (new_any _).mono ?_; rintro e w1 hnew; obtain ⟨tb, mb, rfl, o1⟩ := OT.new hnew; clear hnew) | (go_at_call 14; refine (sanity_any _).mono ?_; rintro e w2 ⟨rfl, hm2⟩))
    go_ret
    exact ⟨rfl, o1.mod.trans_nil hm2⟩
  · have hg : ¬ (120 : Int) < (n : Int) := by omega
    go_enter Try.func4, Try.ntmps4
    go_wp2_with (go_at_call 29; refine (new_any _).mono ?_; rintro e w1 hnew; obtain ⟨tb, mb, rfl, o1⟩ := OT.new hnew; clear hnew)
    have hst : CountSt w (w1.alloc (.cells (wantC (fun _ => 0)).toArray 59)) tb mb w1.heap.size [] := by
      refine ⟨nilV, o1.step ((Mod.refl _ _).alloc _) (Nat.le_refl _) (by simp), ?_⟩
      have e : wantC (countL []) = wantC (fun _ => 0) := wantC_congr (fun t ht => by simp [countL])
      rw [e]
      exact heap_alloc_at _ _
    have hw1 := o1.mod.size
    obtain ⟨wb, hwb⟩ : ∃ wb, w1.heap.size = wb := ⟨_, rfl⟩
    rw [hwb] at hst hw1
    rw [hwb]
    have HSt := Lib.hid hst
    clear hst o1 hwb
    go_loopw [20] (fun s20 wr => ∃ k : Nat, k ≤ n ∧ s20 = .int .i64 k ∧ Hid (CountSt w wr tb mb wb (opsL [] (s.take k)))) (fun s20 _ => n - (intOf s20).toNat)
    case atStart => exact ⟨0, by omega, rfl, HSt⟩
    case round =>
      obtain ⟨k, hk, rfl, HS⟩ := hrel
      clear HSt
      obtain ⟨lv, ot, hwb⟩ := HS.out
      by_cases hlt : k < n
      · obtain ⟨o, ho⟩ : ∃ o, s[k]? = some o := ⟨_, List.getElem?_eq_getElem (by have := HN.out; omega)⟩
        obtain ⟨b, off, rfl, hrow⟩ := HR.out k o ho
        have hrow1 := hrow.mod ot.mod (by simp)
        have htk := opsL_take [] s k o ho
        obtain ⟨l, hl0⟩ : ∃ l, opsL [] (s.take k) = l := ⟨_, rfl⟩
        rw [hl0] at htk ot hwb
        have hinv := ot.inv
        obtain ⟨e, he⟩ : ∃ e, (opL l o).2.2 = e := ⟨_, rfl⟩
        obtain ⟨xb, hxb⟩ : ∃ xb, wr.heap.size = xb := ⟨_, rfl⟩
        have HTk := Lib.hid htk
        have HWb := Lib.hid hwb
        have HE := Lib.hid he
        have HXb := Lib.hid hxb
        have HInv := Lib.hid hinv
        clear ho hrow htk hwb hl0 he hxb hinv
        -- BY CASES
        have hw0 : w.heap.size ≤ wb := by omega
        by_cases he0 : e = 0
        · subst he0
          by_cases hneg : o.tenant < 0
          · have HNeg := Lib.hid hneg
            go_wp2_with (first | (refine wpList_load_at rfl 37 (.tmp 22) rfl _ Try.underlying37 rfl 9 infoOp b (off + k * 9) o.cells rfl hrow1 rfl ?_) | (refine wpList_store_at rfl 37 (.tmp 6) (.tmp 23) rfl 9 infoOp wr.heap.size 0 37 zeroOp o.cells rfl rfl (heap_alloc_at _ _) rfl (oneCell_op o) (Nat.le_refl 9) ?_; intro w2 hh2 hs2; have hlt2 := lt_of_heap hh2; obtain ⟨row2, hm2⟩ := store_op hh2 hs2; clear hh2 hs2) | (refine wpList_load_at rfl 37 (.tmp 6) rfl _ Try.underlying37 rfl 9 infoOp wr.heap.size 0 o.cells rfl row2 rfl ?_) | (go_at_call 30; refine (do_any w2 tb mb lv l o (ot.same hm2).1.tab).mono ?_; rintro e' w3 hp3; obtain ⟨rfl, ot3, st3, _, _⟩ := (ot.step hm2 (Nat.le_refl _) hlt2).op hp3; have row3 := st3.row row2 (by simp); have hwb3 := st3.heap (hm2.heap HWb.out (by simp)) (by simp); have HOT := Lib.hid ot3; have HWb3 := Lib.hid hwb3; rw [HE.out]; have p2 : w3.cell? ⟨wr.heap.size, 2, none⟩ = some (.int .i64 o.tenant) := row3 2 _ rfl; clear ot3 hp3 hwb3 row3))
            go_roundw
            case rel =>
              obtain ⟨lv3, ot3⟩ := HOT.out
              refine ⟨k + 1, by omega, by go_num, Lib.hid ⟨lv3, by rw [HTk.out]; exact ot3.less (by simp), ?_⟩⟩
              rw [HTk.out, want_same HInv.out o (.inr (.inl HNeg.out))]
              exact HWb3.out
            case measure => simp [intOf]; omega
          · by_cases hpos : 15 < o.tenant
            · have HPos := Lib.hid hpos
              go_wp2_with (first | (refine wpList_load_at rfl 37 (.tmp 22) rfl _ Try.underlying37 rfl 9 infoOp b (off + k * 9) o.cells rfl hrow1 rfl ?_) | (refine wpList_store_at rfl 37 (.tmp 6) (.tmp 23) rfl 9 infoOp wr.heap.size 0 37 zeroOp o.cells rfl rfl (heap_alloc_at _ _) rfl (oneCell_op o) (Nat.le_refl 9) ?_; intro w2 hh2 hs2; have hlt2 := lt_of_heap hh2; obtain ⟨row2, hm2⟩ := store_op hh2 hs2; clear hh2 hs2) | (refine wpList_load_at rfl 37 (.tmp 6) rfl _ Try.underlying37 rfl 9 infoOp wr.heap.size 0 o.cells rfl row2 rfl ?_) | (go_at_call 30; refine (do_any w2 tb mb lv l o (ot.same hm2).1.tab).mono ?_; rintro e' w3 hp3; obtain ⟨rfl, ot3, st3, _, _⟩ := (ot.step hm2 (Nat.le_refl _) hlt2).op hp3; have row3 := st3.row row2 (by simp); have hwb3 := st3.heap (hm2.heap HWb.out (by simp)) (by simp); have HOT := Lib.hid ot3; have HWb3 := Lib.hid hwb3; rw [HE.out]; have p2 : w3.cell? ⟨wr.heap.size, 2, none⟩ = some (.int .i64 o.tenant) := row3 2 _ rfl; clear ot3 hp3 hwb3 row3))
              go_roundw
              case rel =>
                obtain ⟨lv3, ot3⟩ := HOT.out
                refine ⟨k + 1, by omega, by go_num, Lib.hid ⟨lv3, by rw [HTk.out]; exact ot3.less (by simp), ?_⟩⟩
                rw [HTk.out, want_same HInv.out o (.inr (.inr (.inl HPos.out)))]
                exact HWb3.out
              case measure => simp [intOf]; omega
            · obtain ⟨t, ht⟩ : ∃ t : Nat, o.tenant = t := ⟨o.tenant.toNat, by omega⟩
              have ht16 : t < 16 := by omega
              obtain ⟨cv, hcv⟩ : ∃ cv, countL l t = cv := ⟨_, rfl⟩
              have hcb := count_range HInv.out (t : Int)
              rw [hcv] at hcb
              have hgb := count_range (l := (opL l o).1) (opL_inv HInv.out o) (t : Int)
              rw [count_op HInv.out, HE.out, if_pos ⟨rfl, ht.symm⟩, hcv] at hgb
              have HT := Lib.hid ht
              have HCv := Lib.hid hcv
              have ht0 : (0 : Int) ≤ (t : Int) := by omega
              have ht1 : (t : Int) < 16 := by omega
              have ht2 : ¬ 15 < (t : Int) := by omega
              clear hneg hpos ht hcv
              by_cases hk1 : o.kind = 1
              · skip
                have hg2 : 0 ≤ cv + 1 ∧ cv + 1 ≤ 140737488355328 := by simpa [gainO, hk1] using hgb
                have hg3 := hg2.1
                have hg4 := hg2.2
                have HK := Lib.hid hk1
                skip
                clear hgb hg2 hk1
                go_wp2_with (first | (refine wpList_load_at rfl 37 (.tmp 22) rfl _ Try.underlying37 rfl 9 infoOp b (off + k * 9) o.cells rfl hrow1 rfl ?_) | (refine wpList_store_at rfl 37 (.tmp 6) (.tmp 23) rfl 9 infoOp wr.heap.size 0 37 zeroOp o.cells rfl rfl (heap_alloc_at _ _) rfl (oneCell_op o) (Nat.le_refl 9) ?_; intro w2 hh2 hs2; have hlt2 := lt_of_heap hh2; obtain ⟨row2, hm2⟩ := store_op hh2 hs2; clear hh2 hs2) | (refine wpList_load_at rfl 37 (.tmp 6) rfl _ Try.underlying37 rfl 9 infoOp wr.heap.size 0 o.cells rfl row2 rfl ?_) | (go_at_call 30; refine (do_any w2 tb mb lv l o (ot.same hm2).1.tab).mono ?_; rintro e' w3 hp3; obtain ⟨rfl, ot3, st3, _, _⟩ := (ot.step hm2 (Nat.le_refl _) hlt2).op hp3; have row3 := st3.row row2 (by simp); have hwb3 := st3.heap (hm2.heap HWb.out (by simp)) (by simp); have HOT := Lib.hid ot3; have HWb3 := Lib.hid hwb3; rw [HE.out]; have p0 : w3.cell? ⟨wr.heap.size, 0, none⟩ = some (.int .i64 1) := (by rw [← HK.out]; exact row3 0 _ rfl); have p2 : w3.cell? ⟨wr.heap.size, 2, none⟩ = some (.int .i64 t) := (by rw [← HT.out]; exact row3 2 _ rfl); have pw : w3.cell? ⟨wb, t, none⟩ = some (.int .i64 cv) := (by rw [cell_of_row _ _ _ _ _ _ hwb3, ← HCv.out]; simpa using wantC_get (countL l) ht16); have fz := frozen_of_row w3 wb t _ _ hwb3; clear ot3 hp3 hwb3 row3))
                go_roundw
                case rel =>
                  obtain ⟨lv3, ot3⟩ := HOT.out
                  refine ⟨k + 1, by omega, by go_num, Lib.hid ?_⟩
                  have := count_gain (v := cv + 1) ot3 HInv.out HT.out ht16 HE.out HWb3.out hw0 (by rw [HCv.out]; simp [gainO, HK.out])
                  rw [HTk.out]
                  exact this
                case measure => simp [intOf]; omega
              by_cases hk2 : o.kind = 2
              · skip
                have hg2 : 0 ≤ cv + o.n ∧ cv + o.n ≤ 140737488355328 := by simpa [gainO, hk2] using hgb
                have hg3 := hg2.1
                have hg4 := hg2.2
                have HK := Lib.hid hk2
                skip
                clear hgb hg2 hk2
                go_wp2_with (first | (refine wpList_load_at rfl 37 (.tmp 22) rfl _ Try.underlying37 rfl 9 infoOp b (off + k * 9) o.cells rfl hrow1 rfl ?_) | (refine wpList_store_at rfl 37 (.tmp 6) (.tmp 23) rfl 9 infoOp wr.heap.size 0 37 zeroOp o.cells rfl rfl (heap_alloc_at _ _) rfl (oneCell_op o) (Nat.le_refl 9) ?_; intro w2 hh2 hs2; have hlt2 := lt_of_heap hh2; obtain ⟨row2, hm2⟩ := store_op hh2 hs2; clear hh2 hs2) | (refine wpList_load_at rfl 37 (.tmp 6) rfl _ Try.underlying37 rfl 9 infoOp wr.heap.size 0 o.cells rfl row2 rfl ?_) | (go_at_call 30; refine (do_any w2 tb mb lv l o (ot.same hm2).1.tab).mono ?_; rintro e' w3 hp3; obtain ⟨rfl, ot3, st3, _, _⟩ := (ot.step hm2 (Nat.le_refl _) hlt2).op hp3; have row3 := st3.row row2 (by simp); have hwb3 := st3.heap (hm2.heap HWb.out (by simp)) (by simp); have HOT := Lib.hid ot3; have HWb3 := Lib.hid hwb3; rw [HE.out]; have p0 : w3.cell? ⟨wr.heap.size, 0, none⟩ = some (.int .i64 2) := (by rw [← HK.out]; exact row3 0 _ rfl); have p2 : w3.cell? ⟨wr.heap.size, 2, none⟩ = some (.int .i64 t) := (by rw [← HT.out]; exact row3 2 _ rfl); have p3 : w3.cell? ⟨wr.heap.size, 3, none⟩ = some (.int .i64 o.n) := row3 3 _ rfl; have pw : w3.cell? ⟨wb, t, none⟩ = some (.int .i64 cv) := (by rw [cell_of_row _ _ _ _ _ _ hwb3, ← HCv.out]; simpa using wantC_get (countL l) ht16); have fz := frozen_of_row w3 wb t _ _ hwb3; clear ot3 hp3 hwb3 row3))
                go_still_tail 8, (by kernel_rfl)
                go_wp2
                go_roundw
                case rel =>
                  obtain ⟨lv3, ot3⟩ := HOT.out
                  refine ⟨k + 1, by omega, by go_num, Lib.hid ?_⟩
                  have := count_gain (v := cv + o.n) ot3 HInv.out HT.out ht16 HE.out HWb3.out hw0 (by rw [HCv.out]; simp [gainO, HK.out])
                  rw [HTk.out]
                  exact this.drew
                case measure => simp [intOf]; omega
              by_cases hk3 : o.kind = 3
              · skip
                have hg2 : 0 ≤ cv - o.n ∧ cv - o.n ≤ 140737488355328 := by simpa [gainO, hk3, Int.sub_eq_add_neg] using hgb
                have hg3 := hg2.1
                have hg4 := hg2.2
                have HK := Lib.hid hk3
                skip
                clear hgb hg2 hk3
                go_wp2_with (first | (refine wpList_load_at rfl 37 (.tmp 22) rfl _ Try.underlying37 rfl 9 infoOp b (off + k * 9) o.cells rfl hrow1 rfl ?_) | (refine wpList_store_at rfl 37 (.tmp 6) (.tmp 23) rfl 9 infoOp wr.heap.size 0 37 zeroOp o.cells rfl rfl (heap_alloc_at _ _) rfl (oneCell_op o) (Nat.le_refl 9) ?_; intro w2 hh2 hs2; have hlt2 := lt_of_heap hh2; obtain ⟨row2, hm2⟩ := store_op hh2 hs2; clear hh2 hs2) | (refine wpList_load_at rfl 37 (.tmp 6) rfl _ Try.underlying37 rfl 9 infoOp wr.heap.size 0 o.cells rfl row2 rfl ?_) | (go_at_call 30; refine (do_any w2 tb mb lv l o (ot.same hm2).1.tab).mono ?_; rintro e' w3 hp3; obtain ⟨rfl, ot3, st3, _, _⟩ := (ot.step hm2 (Nat.le_refl _) hlt2).op hp3; have row3 := st3.row row2 (by simp); have hwb3 := st3.heap (hm2.heap HWb.out (by simp)) (by simp); have HOT := Lib.hid ot3; have HWb3 := Lib.hid hwb3; rw [HE.out]; have p0 : w3.cell? ⟨wr.heap.size, 0, none⟩ = some (.int .i64 3) := (by rw [← HK.out]; exact row3 0 _ rfl); have p2 : w3.cell? ⟨wr.heap.size, 2, none⟩ = some (.int .i64 t) := (by rw [← HT.out]; exact row3 2 _ rfl); have p3 : w3.cell? ⟨wr.heap.size, 3, none⟩ = some (.int .i64 o.n) := row3 3 _ rfl; have pw : w3.cell? ⟨wb, t, none⟩ = some (.int .i64 cv) := (by rw [cell_of_row _ _ _ _ _ _ hwb3, ← HCv.out]; simpa using wantC_get (countL l) ht16); have fz := frozen_of_row w3 wb t _ _ hwb3; clear ot3 hp3 hwb3 row3))
                go_still_tail 8, (by kernel_rfl)
                go_wp2
                go_roundw
                case rel =>
                  obtain ⟨lv3, ot3⟩ := HOT.out
                  refine ⟨k + 1, by omega, by go_num, Lib.hid ?_⟩
                  have := count_gain (v := cv - o.n) ot3 HInv.out HT.out ht16 HE.out HWb3.out hw0 (by rw [HCv.out]; simp [gainO, HK.out, Int.sub_eq_add_neg])
                  rw [HTk.out]
                  exact this.drew
                case measure => simp [intOf]; omega
              have b1 : (o.kind == 1) = false := by simpa using hk1
              have b2 : (o.kind == 2) = false := by simpa using hk2
              have b3 : (o.kind == 3) = false := by simpa using hk3
              have HK1 := Lib.hid hk1
              have HK2 := Lib.hid hk2
              have HK3 := Lib.hid hk3
              clear hgb hk1 hk2 hk3
              go_wp2_with (first | (refine wpList_load_at rfl 37 (.tmp 22) rfl _ Try.underlying37 rfl 9 infoOp b (off + k * 9) o.cells rfl hrow1 rfl ?_) | (refine wpList_store_at rfl 37 (.tmp 6) (.tmp 23) rfl 9 infoOp wr.heap.size 0 37 zeroOp o.cells rfl rfl (heap_alloc_at _ _) rfl (oneCell_op o) (Nat.le_refl 9) ?_; intro w2 hh2 hs2; have hlt2 := lt_of_heap hh2; obtain ⟨row2, hm2⟩ := store_op hh2 hs2; clear hh2 hs2) | (refine wpList_load_at rfl 37 (.tmp 6) rfl _ Try.underlying37 rfl 9 infoOp wr.heap.size 0 o.cells rfl row2 rfl ?_) | (go_at_call 30; refine (do_any w2 tb mb lv l o (ot.same hm2).1.tab).mono ?_; rintro e' w3 hp3; obtain ⟨rfl, ot3, st3, _, _⟩ := (ot.step hm2 (Nat.le_refl _) hlt2).op hp3; have row3 := st3.row row2 (by simp); have hwb3 := st3.heap (hm2.heap HWb.out (by simp)) (by simp); have HOT := Lib.hid ot3; have HWb3 := Lib.hid hwb3; rw [HE.out]; have p0 : w3.cell? ⟨wr.heap.size, 0, none⟩ = some (.int .i64 o.kind) := row3 0 _ rfl; have p2 : w3.cell? ⟨wr.heap.size, 2, none⟩ = some (.int .i64 t) := (by rw [← HT.out]; exact row3 2 _ rfl); clear ot3 hp3 hwb3 row3))
              go_roundw
              case rel =>
                obtain ⟨lv3, ot3⟩ := HOT.out
                refine ⟨k + 1, by omega, by go_num, Lib.hid ⟨lv3, by rw [HTk.out]; exact ot3.less (by simp), ?_⟩⟩
                rw [HTk.out, want_same HInv.out o (.inr (.inr (.inr ⟨HK1.out, HK2.out, HK3.out⟩)))]
                exact HWb3.out
              case measure => simp [intOf]; omega
        · have hb : (e != 0) = true := by simpa using he0
          have HE0 := Lib.hid he0
          clear he0
          go_wp2_with (first | (refine wpList_load_at rfl 37 (.tmp 22) rfl _ Try.underlying37 rfl 9 infoOp b (off + k * 9) o.cells rfl hrow1 rfl ?_) | (refine wpList_store_at rfl 37 (.tmp 6) (.tmp 23) rfl 9 infoOp wr.heap.size 0 37 zeroOp o.cells rfl rfl (heap_alloc_at _ _) rfl (oneCell_op o) (Nat.le_refl 9) ?_; intro w2 hh2 hs2; have hlt2 := lt_of_heap hh2; obtain ⟨row2, hm2⟩ := store_op hh2 hs2; clear hh2 hs2) | (refine wpList_load_at rfl 37 (.tmp 6) rfl _ Try.underlying37 rfl 9 infoOp wr.heap.size 0 o.cells rfl row2 rfl ?_) | (go_at_call 30; refine (do_any w2 tb mb lv l o (ot.same hm2).1.tab).mono ?_; rintro e' w3 hp3; obtain ⟨rfl, ot3, st3, _, _⟩ := (ot.step hm2 (Nat.le_refl _) hlt2).op hp3; have row3 := st3.row row2 (by simp); have hwb3 := st3.heap (hm2.heap HWb.out (by simp)) (by simp); have HOT := Lib.hid ot3; have HWb3 := Lib.hid hwb3; rw [HE.out]; skip; clear ot3 hp3 hwb3 row3))
          go_roundw
          case rel =>
            obtain ⟨lv3, ot3⟩ := HOT.out
            refine ⟨k + 1, by omega, by go_num, Lib.hid ⟨lv3, by rw [HTk.out]; exact ot3.less (by simp), ?_⟩⟩
            rw [HTk.out, want_same HInv.out o (.inl (by rw [HE.out]; exact HE0.out))]
            exact HWb3.out
          case measure => simp [intOf]; omega
      · obtain rfl : k = n := by omega
        have hrA := Row.of_heap hwb
        obtain ⟨l, hl0⟩ : ∃ l, opsL [] (s.take k) = l := ⟨_, rfl⟩
        rw [hl0] at ot hrA
        have hinv := ot.inv
        have HInv := Lib.hid hinv
        have ot0 : OT w wr tb mb lv l [] := ot.less (by simp)
        clear hwb hl0 hinv ot HS HR HN
        obtain ⟨A, hA⟩ : ∃ A, wantC (countL l) = A := ⟨_, rfl⟩
        rw [hA] at hrA
        have hAl : A.length = 16 := by rw [← hA]; exact wantC_len _
        have HA := Lib.hid hA
        have HAl := Lib.hid hAl
        clear hA hAl
        go_wp2_with (first | (refine wpList_load_at rfl 59 (.tmp 4) rfl _ Try.underlying59 rfl 16 infoArr wb 0 A rfl hrA HAl.out ?_) | fail)
        obtain ⟨wo, hwo⟩ : ∃ wo : World, wo = wr := ⟨_, rfl⟩
        go_loopw [74] (fun s74 wq => ∃ j : Nat, j ≤ 16 ∧ s74 = .int .i64 j ∧ Hid (OT w wq tb mb lv l [])) (fun s74 _ => 16 - (intOf s74).toNat)
        case atStart => exact ⟨0, by omega, rfl, Lib.hid ot0⟩
        case round =>
          obtain ⟨j, hj, rfl, HO⟩ := hrel
          by_cases hlj : j < 16
          · have hix : ∀ w, (Instr.index 59 (.agg A.toArray) (.int .i64 j)).run Try.prog w = .ok (.int .i64 (countL l j)) w := fun w => by rw [← HA.out]; exact run_index_want (countL l) j hlj w
            go_wp2_with (go_at_call 27; refine (count_any _ tb mb lv l j HO.out.tab).mono ?_; rintro e w2 ⟨rfl, hm2⟩)
            go_roundw
            case rel => exact ⟨j + 1, by omega, by go_num, Lib.hid (HO.out.same hm2).1⟩
            case measure => simp [intOf]; omega
          · obtain rfl : j = 16 := by omega
            have hc1 := countL_out HInv.out.each (t := 16) (by omega)
            have hc2 := countL_out HInv.out.each (t := -1) (by omega)
            have HC1 := Lib.hid hc1
            have HC2 := Lib.hid hc2
            clear hc1 hc2
            go_wp2_with fail
            refine (sanity_any _).mono ?_
            rintro e w2 ⟨rfl, hm2⟩
            have o2 := (HO.out.same hm2).1
            go_wp2_with fail
            refine (count_any _ tb mb lv l 16 o2.tab).mono ?_
            rintro e w3 ⟨rfl, hm3⟩
            rw [HC1.out]
            have o3 := (o2.same hm3).1
            go_wp2_with fail
            refine (count_any _ tb mb lv l (-1) o3.tab).mono ?_
            rintro e w4 ⟨rfl, hm4⟩
            rw [HC2.out]
            have o4 := (o3.same hm4).1
            go_wp2_with fail
            go_ret
            exact ⟨rfl, o4.mod⟩

end Go.Proofs.Ytknkifanpppglaa

/- The law ChunksUnits returns true for every script: the walk. -/
namespace Go.Proofs.Ytknkifanpppglaa
open Go.RowKit

theorem count_fm (f : Nat → Option Int) (id : Int) (u : Nat) (h1 : f u = some id) (h2 : ∀ n, f n = some id → n = u) : ∀ m : Nat, ((List.range m).filterMap f).count id = if u < m then 1 else 0
  | 0 => by simp
  | m + 1 => by
    rw [List.range_succ, List.filterMap_append, List.count_append, count_fm f id u h1 h2 m]
    by_cases e : m = u
    · subst e
      simp [h1]
    · have : ([m].filterMap f).count id = 0 := by
        cases hf : f m with
        | none => simp [hf]
        | some j =>
          have : j ≠ id := fun ej => e (h2 m (by rw [hf, ej]))
          simp [hf, this]
      rw [this]
      by_cases e2 : u < m
      · rw [if_pos e2, if_pos (by omega)]
      · rw [if_neg e2, if_neg (by omega)]

theorem count_live {l : List Ck} (h : Inv l) {k : Nat} {c : Ck} (hk : l[k]? = some c) (hl : c.lost = false) : (liveL l c.pos.row c.pos.group).count c.id = 1 := by
  have hu := U3.ok_range ((h.each c (List.mem_of_getElem? hk)).pos hl)
  obtain ⟨u, hu'⟩ : ∃ u : Nat, c.pos.unit = u := ⟨c.pos.unit.toNat, by omega⟩
  have hp : c.pos = ⟨c.pos.row, c.pos.group, (u : Int)⟩ := by rw [← hu']
  unfold liveL
  rw [count_fm _ c.id u ?_ ?_ 32, if_pos (by omega)]
  · rw [← hp]
    exact (atU_iff h).2 ⟨k, c, hk, hl, rfl, rfl⟩
  · intro n hn
    obtain ⟨j, d, h1, h2, h3, h4⟩ := (atU_iff h).1 hn
    have e := ids_inj h h1 hk h4
    subst e
    rw [hk] at h1
    cases h1
    rw [hp] at h3
    simp at h3
    omega

theorem count_take {xs : List Int} {k : Nat} {x id : Int} (h : xs[k]? = some x) : (xs.take (k + 1)).count id = (xs.take k).count id + if x = id then 1 else 0 := by
  rw [take_snoc' h, List.count_append]
  by_cases e : x = id <;> simp [e]

theorem getC_at {l : List Ck} (h : Inv l) {k : Nat} {c : Ck} (hk : l[k]? = some c) : getC l c.id = some c := by
  rw [getC_idx, idxOf_at h hk]; exact hk

set_option maxRecDepth 100000 in
set_option maxHeartbeats 4000000 in
theorem units_any (w : World) (sv : Value) (s : List Opn) (h : ScriptAt w sv s) : Calls Try.prog 6 #[sv] w (BoolPost true w) := by
  go_enter Try.func6, Try.ntmps6
  go_wp2_with fail
  refine (build_any _ sv s h).mono ?_
  rintro e w1 hb
  rcases hb with ⟨_, rfl, hm1⟩ | ⟨_, tb, mb, lv, rfl, o1⟩
  · go_wp2_with (go_at_call 14; refine (sanity_any _).mono ?_; rintro e w2 ⟨rfl, hm2⟩)
    go_ret
    exact ⟨rfl, hm1.trans_nil hm2⟩
  · obtain ⟨l, hl0⟩ : ∃ l, opsL [] s = l := ⟨_, rfl⟩
    rw [hl0] at o1
    clear hl0 h
    go_wp2_with fail
    refine (ids_any _ tb mb lv l o1.tab).mono ?_
    rintro e w2 ⟨vi, rfl, hvi, hm2, _⟩
    have o2 := (o1.same hm2).1
    have hinv := o2.inv
    have hll := inv_len hinv
    clear o1 hm2
    obtain ⟨ai, ci, rfl, hcells⟩ : ∃ a c, vi = .slice a l.length c ∧ ∀ k x, (l.map (·.id))[k]? = some x → ∃ b, a = some ⟨b, 0, none⟩ ∧ w2.cell? ⟨b, k, none⟩ = some (.int .i64 x) := by
      rcases hvi.shape with ⟨rfl, h2⟩ | ⟨b, cap, rfl, _, _, _, h2⟩
      · have : l = [] := by simpa using h2
        subst this
        exact ⟨_, _, rfl, fun k x hk => by simp at hk⟩
      · exact ⟨_, _, by rw [List.length_map], fun k x hk => ⟨b, rfl, h2 k x hk⟩⟩
    obtain ⟨m, hm0⟩ : ∃ m, l.length = m := ⟨_, rfl⟩
    rw [hm0] at hll
    rw [hm0]
    have HM := Lib.hid hm0
    have HC := Lib.hid hcells
    have HInv := Lib.hid hinv
    have HO := Lib.hid o2
    clear hm0 hcells hinv hvi o2
    go_wp2_with fail
    go_loopw [25] (fun s25 wr => ∃ k : Nat, k ≤ m ∧ s25 = .int .i64 k ∧ Mod [] w2 wr) (fun s25 _ => m - (intOf s25).toNat)
    case atStart => exact ⟨0, by omega, rfl, Mod.refl _ _⟩
    case round =>
      obtain ⟨k, hk, rfl, hmr⟩ := hrel
      by_cases hlt : k < m
      · obtain ⟨c, hx⟩ : ∃ c, l[k]? = some c := ⟨_, List.getElem?_eq_getElem (by have := HM.out; omega)⟩
        obtain ⟨b, rfl, cx⟩ := HC.out k c.id (by simp [hx])
        have cx1 := hmr.cell cx (by simp)
        have hg := getC_at HInv.out hx
        have hok := HInv.out.each c (List.mem_of_getElem? hx)
        have hor := (HO.out.same hmr).1
        have hd := hok.dig
        have hrne : ((c.refs.length : Int) == 0) = false := by
          have := hok.refsNe
          have : c.refs.length ≠ 0 := fun e => this (List.eq_nil_of_length_eq_zero e)
          simp; omega
        have HX := Lib.hid hx
        have HG := Lib.hid hg
        have HOk := Lib.hid hok
        have HOr := Lib.hid hor
        have HD := Lib.hid hd
        clear hx cx hg hok hor hd
        go_wp2_with fail
        refine (get_any _ tb mb lv l c.id HOr.out.tab).mono ?_
        rintro e w3 ⟨hm3, hg3⟩
        rw [HG.out] at hg3
        obtain ⟨ck, rv, hck, hd3, rfl, hrf3, _⟩ : ∃ d rv, some c = some d ∧ d.dig.length = 16 ∧ e = .returned (.tuple #[.agg (d.cells rv).toArray, .bool true]) ∧ Refs w3 rv d.refs ∧ ∀ g, rv.ownBlock = some g → wr.heap.size ≤ g := by
          rcases hg3 with ⟨h, _⟩ | h
          · cases h
          · exact h
        cases hck
        clear hg3 hd3
        obtain ⟨a', cap', rfl⟩ := hrf3.sliceLen
        have hone : (Value.slice a' c.refs.length cap').oneCell' = true := rfl
        have hmr3 := hmr.trans_nil hm3
        clear hrf3 hm3 HOr
        cases hlost : c.lost with
        | true =>
          have hz := HOk.out.gone hlost
          have hq : ∀ w, (binOp .neq 26 (.agg #[.int .i64 0, .int .i64 0, .int .i64 0]) (.agg #[.int .i64 0, .int .i64 0, .int .i64 0])).run Try.prog w = .ok (.bool false) w := fun w => nequal_unit zeroU zeroU w
          have HL := Lib.hid hlost
          have HZ := Lib.hid hz
          clear hlost hz
          go_wp2_with (first | (refine wpList_store_at rfl 45 (.tmp 7) (.tmp 33) rfl 23 info45 w3.heap.size 0 45 zeroCells (c.cells (.slice a' c.refs.length cap')) rfl rfl (heap_alloc_at _ _) (by rw [Ck.cells_len, HD.out]) (oneCell_ck hone) (by simp [zeroCells, Ck.cells_len, HD.out]) ?_; intro w4 hhw4 hsw4; have hmw4 := ((Mod.refl [] w3).alloc (.cells zeroCells.toArray 45)).trans hsw4 (by simp); rw [splice_all _ _ (by simp [zeroCells, Ck.cells_len, HD.out])] at hhw4; have roww4 := Row.of_heap hhw4; have HHw4 := Lib.hid hhw4; clear hhw4; have d0 : w4.cell? ⟨w3.heap.size, 0, none⟩ = some (.int .i64 c.id) := roww4 0 _ rfl; have d22 : w4.cell? ⟨w3.heap.size, 22, none⟩ = some (.slice a' c.refs.length cap') := roww4 22 _ (Ck.c22 HD.out _); have d21 : w4.cell? ⟨w3.heap.size, 21, none⟩ = some (.bool true) := (by rw [← HL.out]; exact roww4 21 _ (Ck.c21 HD.out _)); have d18 : w4.cell? ⟨w3.heap.size, 18, none⟩ = some (.int .i64 0) := (by have := roww4 18 _ (Ck.c18 HD.out _); rw [HZ.out] at this; exact this); have d19 : w4.cell? ⟨w3.heap.size, 19, none⟩ = some (.int .i64 0) := (by have := roww4 19 _ (Ck.c19 HD.out _); rw [HZ.out] at this; exact this); have d20 : w4.cell? ⟨w3.heap.size, 20, none⟩ = some (.int .i64 0) := (by have := roww4 20 _ (Ck.c20 HD.out _); rw [HZ.out] at this; exact this)) | fail)
          go_roundw
          case rel => exact ⟨k + 1, by omega, by go_num, hmr3.trans_nil hmw4⟩
          case measure => simp [intOf]; omega
        | false =>
          have hat : atU l c.pos = some c.id := (atU_iff HInv.out).2 ⟨k, c, HX.out, hlost, rfl, rfl⟩
          have hcl := count_live HInv.out HX.out hlost
          have HL := Lib.hid hlost
          have HAt := Lib.hid hat
          have HCl := Lib.hid hcl
          clear hlost hat hcl
          go_wp2_with (first | (refine wpList_store_at rfl 45 (.tmp 7) (.tmp 33) rfl 23 info45 w3.heap.size 0 45 zeroCells (c.cells (.slice a' c.refs.length cap')) rfl rfl (heap_alloc_at _ _) (by rw [Ck.cells_len, HD.out]) (oneCell_ck hone) (by simp [zeroCells, Ck.cells_len, HD.out]) ?_; intro w4 hhw4 hsw4; have hmw4 := ((Mod.refl [] w3).alloc (.cells zeroCells.toArray 45)).trans hsw4 (by simp); rw [splice_all _ _ (by simp [zeroCells, Ck.cells_len, HD.out])] at hhw4; have roww4 := Row.of_heap hhw4; have HHw4 := Lib.hid hhw4; clear hhw4; have d0 : w4.cell? ⟨w3.heap.size, 0, none⟩ = some (.int .i64 c.id) := roww4 0 _ rfl; have d22 : w4.cell? ⟨w3.heap.size, 22, none⟩ = some (.slice a' c.refs.length cap') := roww4 22 _ (Ck.c22 HD.out _); have d21 : w4.cell? ⟨w3.heap.size, 21, none⟩ = some (.bool false) := (by rw [← HL.out]; exact roww4 21 _ (Ck.c21 HD.out _)); have d18 : w4.cell? ⟨w3.heap.size, 18, none⟩ = some (.int .i64 c.pos.row) := roww4 18 _ (Ck.c18 HD.out _); have d19 : w4.cell? ⟨w3.heap.size, 19, none⟩ = some (.int .i64 c.pos.group) := roww4 19 _ (Ck.c19 HD.out _); have d20 : w4.cell? ⟨w3.heap.size, 20, none⟩ = some (.int .i64 c.pos.unit) := roww4 20 _ (Ck.c20 HD.out _)) | fail)
          have hm4 := hmr3.trans_nil hmw4
          have o4 := (HO.out.same hm4).1
          refine (at_any _ tb mb lv l c.pos o4.tab).mono ?_
          rintro e w5 ⟨rfl, hm5⟩
          rw [HAt.out]
          have d18' := hm5.cell d18 (by simp)
          have d19' := hm5.cell d19 (by simp)
          have o5 := (o4.same hm5).1
          have hm25 := hm4.trans_nil hm5
          clear d0 d22 d21 d18 d19 d20 hsw4 hmw4 roww4 HHw4 hm4 o4 hm5
          go_wp2_with fail
          refine (live_any _ tb mb lv l c.pos.row c.pos.group o5.tab).mono ?_
          rintro e w6 ⟨vl, rfl, hvl, hm6, _⟩
          have hm26 := hm25.trans_nil hm6
          obtain ⟨xs, hxs⟩ : ∃ xs, liveL l c.pos.row c.pos.group = xs := ⟨_, rfl⟩
          rw [hxs] at hvl
          have hcx : xs.count c.id = 1 := by rw [← hxs]; exact HCl.out
          have hxl : xs.length ≤ 32 := by rw [← hxs]; exact liveTo_len l c.pos.row c.pos.group 32
          obtain ⟨al, cl, rfl, hlc⟩ : ∃ a c', vl = .slice a xs.length c' ∧ ∀ j x, xs[j]? = some x → ∃ b, a = some ⟨b, 0, none⟩ ∧ w6.cell? ⟨b, j, none⟩ = some (.int .i64 x) := by
            rcases hvl.shape with ⟨rfl, rfl⟩ | ⟨b, cap, rfl, _, _, _, h2⟩
            · exact ⟨_, _, rfl, fun k x hk => by simp at hk⟩
            · exact ⟨_, _, rfl, fun k x hk => ⟨b, rfl, h2 k x hk⟩⟩
          obtain ⟨q, hq⟩ : ∃ q, xs.length = q := ⟨_, rfl⟩
          rw [hq] at hxl
          rw [hq]
          have HQ := Lib.hid hq
          have HCX := Lib.hid hcx
          have HLc := Lib.hid hlc
          clear hxs hcx hlc hq hvl hm25 hm6 d18' d19' o5
          go_wp2_with fail
          obtain ⟨wo, hwo⟩ : ∃ wo : World, wo = wr := ⟨_, rfl⟩
          go_loopw [11, 68] (fun s11 s68 wq => ∃ j : Nat, j ≤ q ∧ s68 = .int .i64 j ∧ s11 = .int .i64 ((xs.take j).count c.id) ∧ w6 = wq) (fun _ s68 _ => q - (intOf s68).toNat)
          case atStart => exact ⟨0, by omega, rfl, rfl, rfl⟩
          case round =>
            obtain ⟨j, hj, rfl, rfl, rfl⟩ := hrel
            by_cases hlj : j < q
            · obtain ⟨x, hxj⟩ : ∃ x, xs[j]? = some x := ⟨_, List.getElem?_eq_getElem (by have := HQ.out; omega)⟩
              obtain ⟨bl, rfl, cxl⟩ := HLc.out j x hxj
              have hct := count_take (id := c.id) hxj
              have hcb : (xs.take j).count c.id ≤ 32 := by
                have h1 := List.count_le_length (a := c.id) (l := xs.take j)
                have h2 := List.length_take_le j xs
                omega
              have HCt := Lib.hid hct
              clear hxj hct
              by_cases he : x = c.id
              · have hb : (x == c.id) = true := by simpa using he
                have HE := Lib.hid he
                clear he
                go_wp2
                go_roundw
                case rel => exact ⟨j + 1, by omega, by go_num, int_eq (by rw [HCt.out, if_pos HE.out]; push_cast; rfl), by first | rfl | trivial⟩
                case measure => simp [intOf]; omega
              · have hb : (x == c.id) = false := by simpa using he
                have HE := Lib.hid he
                clear he
                go_wp2
                go_roundw
                case rel => exact ⟨j + 1, by omega, by go_num, int_eq (by rw [HCt.out, if_neg HE.out]; simp), by first | rfl | trivial⟩
                case measure => simp [intOf]; omega
            · obtain rfl : j = q := by omega
              have hfin : (xs.take j).count c.id = 1 := by
                have := HCX.out
                rw [List.take_of_length_le (by have := HQ.out; omega)]
                exact this
              rw [hfin]
              clear hfin
              go_wp2
              go_roundw
              case rel => exact ⟨k + 1, by omega, by go_num, hm26⟩
              case measure => simp [intOf]; omega
      · obtain rfl : k = m := by omega
        go_wp2_with (go_at_call 14; refine (sanity_any _).mono ?_; rintro e w3 ⟨rfl, hm3⟩)
        go_ret
        exact ⟨rfl, (HO.out.mod.trans_nil hmr).trans_nil hm3⟩

theorem units_row (w : World) (sv : Value) (s : List Opn) (h : ScriptAt w sv s) (_ : ∀ o ∈ s, OpnWf o) : Calls Try.prog 6 #[sv] w (BoolPost true w) := units_any w sv s h

end Go.Proofs.Ytknkifanpppglaa

/- What can be encoded stays so; two tables on one heap. -/
namespace Go.Proofs.Ytknkifanpppglaa
open Go.RowKit

def AllRng (l : List Ck) : Prop := ∀ c ∈ l, Rng c

theorem AllRng.set {l : List Ck} (h : AllRng l) {k : Nat} {c : Ck} (hc : Rng c) : AllRng (l.set k c) := fun d hd => by
  rcases List.mem_or_eq_of_mem_set hd with h1 | h1
  · exact h d h1
  · rw [h1]; exact hc

theorem rng_add {l : List Ck} (h : AllRng l) (d : List Int) (p : Int) (u : U3) (t : Int) (hd : ∀ x ∈ d, 0 ≤ x ∧ x < 256) (hp : 0 ≤ p ∧ p < 4294967296) : AllRng (addL l d p u t).1 := by
  unfold addL
  split
  · exact h
  · split
    · exact h
    · split
      · exact h
      · intro c hc
        simp only [List.mem_append, List.mem_cons] at hc
        rcases hc with hc | rfl | hc
        · exact h c (List.mem_of_mem_take hc)
        · exact ⟨hp, hd⟩
        · exact h c (List.mem_of_mem_drop hc)

theorem rng_refer {l : List Ck} (h : AllRng l) (id t n : Int) : AllRng (referL l id t n).1 := by
  unfold referL
  split
  · exact h
  · split
    · exact h
    · split
      · exact h
      · rename_i c hk
        split
        · exact h
        · exact h.set ⟨(h c (List.mem_of_getElem? hk)).print, (h c (List.mem_of_getElem? hk)).dig⟩

theorem rng_unrefer {l : List Ck} (h : AllRng l) (id t n : Int) : AllRng (unreferL l id t n).1 := by
  unfold unreferL
  split
  · exact h
  · split
    · exact h
    · split
      · exact h
      · rename_i c hk
        split
        · exact h
        · split
          · exact h.set ⟨(h c (List.mem_of_getElem? hk)).print, (h c (List.mem_of_getElem? hk)).dig⟩
          · exact fun c hc => h c (List.mem_of_mem_eraseIdx hc)

theorem rng_move {l : List Ck} (h : AllRng l) (id : Int) (u : U3) : AllRng (moveL l id u).1 := by
  unfold moveL
  split
  · exact h
  · split
    · exact h
    · split
      · exact h
      · split
        · exact h
        · rename_i c hk
          exact h.set ⟨(h c (List.mem_of_getElem? hk)).print, (h c (List.mem_of_getElem? hk)).dig⟩

theorem rng_lose {l : List Ck} (h : AllRng l) (id : Int) : AllRng (loseL l id).1 := by
  unfold loseL
  split
  · exact h
  · split
    · exact h
    · rename_i c hk
      exact h.set ⟨(h c (List.mem_of_getElem? hk)).print, (h c (List.mem_of_getElem? hk)).dig⟩

theorem rng_op {l : List Ck} (h : AllRng l) {o : Opn} (ho : OpnWf o) : AllRng (opL l o).1 := by
  unfold opL
  split
  · exact rng_add h _ _ _ _ (fun x hx => by rw [List.eq_of_mem_replicate hx]; exact ho.d) ho.print
  · split
    · exact rng_refer h _ _ _
    · split
      · exact rng_unrefer h _ _ _
      · split
        · exact rng_move h _ _
        · split
          · exact rng_lose h _
          · exact h

theorem rng_ops {l : List Ck} (h : AllRng l) : ∀ {s : List Opn}, (∀ o ∈ s, OpnWf o) → AllRng (opsL l s) := by
  intro s
  unfold opsL
  induction s generalizing l with
  | nil => intro _; exact h
  | cons o s ih => intro hs; exact ih (rng_op h (hs o (by simp))) (fun o' ho' => hs o' (by simp [ho']))

theorem rng_nil : AllRng [] := fun c hc => by simp at hc

theorem conv_bytes {w : World} {v : Value} {xs : List Int} (h : Bytes w v xs) : (convert 70 9 v).run Try.prog w = .ok (.string (strOfNums xs)) w := by
  rcases Own.shape h with ⟨rfl, h2⟩ | ⟨b, cap, cur, rfl, h3, h4, h5, h6, h7, h8⟩
  · have : xs = [] := by simpa using h2
    subst this
    exact run_convert_bytes_nil w _ _ Try.underlying70 Try.underlying5 0 0 _ Try.underlying9
  · rw [List.length_map]
    refine run_convert_bytes_arg w _ _ Try.underlying70 Try.underlying5 b 0 xs.length cap xs rfl (fun i hi => ?_) _ Try.underlying9
    have hx : xs[i]? = some (xs.getD i 0) := by simp [List.getD, List.getElem?_eq_getElem hi]
    have := Own.row h i [.int .u8 (xs.getD i 0)] (by rw [List.getElem?_map, hx]; rfl) 0 _ rfl
    simpa using this

/-- two tables on one heap, both made by the call -/
structure Two (w0 w : World) (tb mb : Nat) (lv : Value) (l : List Ck) (cb nb : Nat) (cv : Value) (m : List Ck) : Prop where
  t : Tab w tb mb lv l
  c : Tab w cb nb cv m
  dis : ∀ x ∈ foot tb mb lv, x ∉ foot cb nb cv
  mod : Mod [] w0 w
  t0 : ∀ x ∈ foot tb mb lv, w0.heap.size ≤ x
  c0 : ∀ x ∈ foot cb nb cv, w0.heap.size ≤ x

theorem Two.swap {w0 w : World} {tb mb cb nb : Nat} {lv cv : Value} {l m : List Ck} (h : Two w0 w tb mb lv l cb nb cv m) : Two w0 w cb nb cv m tb mb lv l :=
  ⟨h.c, h.t, fun x hx hy => h.dis x hy hx, h.mod, h.c0, h.t0⟩

theorem Two.mod0 {w0 w w' : World} {tb mb cb nb : Nat} {lv cv : Value} {l m : List Ck} (h : Two w0 w tb mb lv l cb nb cv m) (hm : Mod [] w w') : Two w0 w' tb mb lv l cb nb cv m :=
  ⟨h.t.mod0 hm, h.c.mod0 hm, h.dis, h.mod.trans_nil hm, h.t0, h.c0⟩

theorem foot_lt {w : World} {tb mb : Nat} {lv : Value} {l : List Ck} (h : Tab w tb mb lv l) : ∀ x ∈ foot tb mb lv, x < w.heap.size := by
  obtain ⟨p1, p2, p3, p4, p5, p6⟩ := h.parts
  intro x hm
  simp only [foot, List.mem_cons, Option.mem_toList] at hm
  rcases hm with rfl | rfl | hm
  · exact p4
  · exact p5
  · exact p6 x hm

/-- an operation on the second one -/
theorem Two.op {w0 w w' : World} {tb mb cb nb : Nat} {lv cv : Value} {l m m' : List Ck} {v : Value} {e : Ending} (h : Two w0 w tb mb lv l cb nb cv m) (hp : TabPost cb nb cv m' v w e w') :
    e = .returned v ∧ ∃ cv', Two w0 w' tb mb lv l cb nb cv' m' := by
  obtain ⟨cv', h1, h2, h3, h4⟩ := hp
  have hs := h3.size
  have hs0 := h.mod.size
  have ht := foot_lt h.t
  have hn : ∀ x ∈ foot cb nb cv', x ∈ foot cb nb cv ∨ w.heap.size ≤ x := by
    intro x hx
    simp only [foot, List.mem_cons, Option.mem_toList] at hx ⊢
    rcases hx with rfl | rfl | hx
    · exact .inl (.inl rfl)
    · exact .inl (.inr (.inl rfl))
    · rcases h4 with h4 | ⟨g, h4, h5⟩
      · rw [h4] at hx; exact .inl (.inr (.inr hx))
      · rw [h4] at hx; simp at hx; subst hx; exact .inr h5
  refine ⟨h1, cv', ⟨h.t.mod h3 h.c.parts.2.2.1 (h.dis _ (by simp [foot])) (h.dis _ (by simp [foot])) (fun b hb => h.dis b (by simp [foot, hb])), h2, ?_, ?_, h.t0, ?_⟩⟩
  · intro x hx hy
    rcases hn x hy with h5 | h5
    · exact h.dis x hx h5
    · have := ht x hx; omega
  · exact h.mod.trans h3 (fun x hx => .inr (h.c0 x hx))
  · intro x hx
    rcases hn x hx with h5 | h5
    · exact h.c0 x h5
    · omega

/-- a table of the call's own and its clone -/
theorem Two.clone {w0 w w' : World} {tb mb : Nat} {lv : Value} {l : List Ck} {K : List Nat} {e : Ending} (h : OT w0 w tb mb lv l K) (hp : ClonePost l w e w') :
    ∃ cb nb cv, e = .returned (.pointer (some ⟨cb, 0, none⟩)) ∧ Two w0 w' tb mb lv l cb nb cv l := by
  obtain ⟨cb, nb, cv, h1, h2, h3, h4, h5, h6⟩ := hp
  have ht := foot_lt h.tab
  have hs0 := h.mod.size
  have hc : ∀ x ∈ foot cb nb cv, w.heap.size ≤ x := by
    intro x hx
    simp only [foot, List.mem_cons, Option.mem_toList] at hx
    rcases hx with rfl | rfl | hx
    · exact h4
    · exact h5
    · exact h6 x hx
  refine ⟨cb, nb, cv, h1, h.tab.mod0 h3, h2, fun x hx hy => ?_, h.mod.trans_nil h3, fun x hx => ?_, fun x hx => Nat.le_trans hs0 (hc x hx)⟩
  · have := ht x hx; have := hc x hy; omega
  · simp only [foot, List.mem_cons, Option.mem_toList] at hx
    rcases hx with rfl | rfl | hx
    · exact h.tb0
    · exact h.mb0
    · exact h.lv0 x hx

end Go.Proofs.Ytknkifanpppglaa

/- Walks of the reference: find, Valid, tenant, Ids, At, Live, Lost, held, Count. -/
namespace Go.Proofs.Ytknkifanpppglaa
open Go.RowKit

theorem Chunks.open {w : World} {lv : Value} {cs : List (Ck × Value)} (h : Chunks w lv cs) (hi : Inv (cksOf cs)) :
    ∃ a cap, lv = .slice a (cksOf cs).length cap ∧ ∀ (k : Nat) (c : Ck), (cksOf cs)[k]? = some c → ∃ b rv, a = some ⟨b, 0, none⟩ ∧ Row w b (k * 23) (c.cells rv) ∧ Refs w rv c.refs ∧ c.dig.length = 16 ∧ CkOk c := by
  rcases h.shape with ⟨rfl, rfl⟩ | ⟨b, cap, rfl, _⟩
  · exact ⟨_, _, rfl, fun k c hk => by simp [cksOf] at hk⟩
  · refine ⟨some ⟨b, 0, none⟩, cap, by rw [cksOf_len], fun k c hk => ?_⟩
    obtain ⟨rv, h1, h2, h3, h4⟩ := h.at hk
    exact ⟨b, rv, rfl, h2, h3, h4, hi.each c (List.mem_of_getElem? hk)⟩

theorem RTab.open {w : World} {rb : Nat} {lv : Value} {l : List Ck} (h : RTab w rb lv l) :
    w.cell? ⟨rb, 0, none⟩ = some lv ∧ l.length ≤ 65536 ∧ Inv l ∧ ∃ a cap, lv = .slice a l.length cap ∧ ∀ (k : Nat) (c : Ck), l[k]? = some c → ∃ b rv, a = some ⟨b, 0, none⟩ ∧ Row w b (k * 23) (c.cells rv) ∧ Refs w rv c.refs ∧ c.dig.length = 16 ∧ CkOk c := by
  obtain ⟨cs, h1, h2, rfl, h4⟩ := h
  exact ⟨by rw [cell_of_row _ _ _ _ _ _ h1]; rfl, inv_len h4, h4, h2.open h4⟩

def findI (l : List Ck) (id : Int) : Int := match idxOf l id with | some k => (k : Int) | none => -1

theorem idxOf_none_take {l : List Ck} {id : Int} (h : ∀ c ∈ l, c.id ≠ id) : findI l id = -1 := by
  unfold findI; rw [idxOf_none.2 h]

set_option maxHeartbeats 1000000 in
theorem rfind_any (w : World) (rb : Nat) (lv : Value) (l : List Ck) (id : Int) (h : RTab w rb lv l) :
    Calls Try.prog 61 #[.pointer (some ⟨rb, 0, none⟩), .int .i64 id] w fun e w' => e = .returned (.int .i64 (findI l id)) ∧ w = w' := by
  obtain ⟨c0, hl, hinv, a, cap, rfl, hr⟩ := h.open
  obtain ⟨r, hrr⟩ : ∃ r, findI l id = r := ⟨_, rfl⟩
  obtain ⟨n, hn⟩ : ∃ n, l.length = n := ⟨_, rfl⟩
  rw [hrr]
  rw [hn] at hl c0
  have HR := Lib.hid hr
  have HRr := Lib.hid hrr
  have HN := Lib.hid hn
  have HInv := Lib.hid hinv
  clear h hr hrr hn hinv
  go_enter Try.func61, Try.ntmps61
  go_wp2
  go_loopw [5] (fun s5 wr => ∃ k : Nat, k ≤ n ∧ s5 = .int .i64 k ∧ Hid (∀ j c, j < k → l[j]? = some c → c.id ≠ id) ∧ w = wr) (fun s5 _ => n - (intOf s5).toNat)
  case atStart => exact ⟨0, by omega, rfl, Lib.hid (fun j c hj => by omega), rfl⟩
  case round =>
    obtain ⟨k, hk, rfl, HK, rfl⟩ := hrel
    by_cases hlt : k < n
    · obtain ⟨c, hx⟩ : ∃ c, l[k]? = some c := ⟨_, List.getElem?_eq_getElem (by have := HN.out; omega)⟩
      obtain ⟨b, rv, rfl, hrw, _, _, _⟩ := HR.out k c hx
      have d0 := hrw.at0 _ (Ck.c0 c rv)
      have HX := Lib.hid hx
      clear hx hrw
      by_cases he : c.id = id
      · have hb : (c.id == id) = true := by simpa using he
        have HE := Lib.hid he
        clear he
        go_wp2
        go_ret
        obtain rfl : r = (k : Int) := by
          rw [← HRr.out]
          unfold findI
          have : idxOf l id = some k := idxOf_some.2 ⟨c, HX.out, HE.out, HK.out⟩
          rw [this]
        exact ⟨rfl, rfl⟩
      · have hb : (c.id == id) = false := by simpa using he
        have HE := Lib.hid he
        clear he
        go_wp2
        go_roundw
        case rel =>
          refine ⟨k + 1, by omega, by go_num, Lib.hid (fun j d hj hd => ?_), by first | rfl | trivial⟩
          by_cases e : j = k
          · subst e
            have h2 := HX.out
            rw [h2] at hd; cases hd; exact HE.out
          · exact HK.out j d (by omega) hd
        case measure => simp [intOf]; omega
    · obtain rfl : k = n := by omega
      go_wp2
      go_ret
      obtain rfl : r = -1 := by
        rw [← HRr.out]
        refine idxOf_none_take fun c hc => ?_
        obtain ⟨j, hj, rfl⟩ := List.getElem_of_mem hc
        exact HK.out j _ (by have := HN.out; omega) (List.getElem?_eq_getElem hj)
      exact ⟨rfl, rfl⟩

theorem rtenant_any (n : Int) (w : World) : Calls Try.prog 103 #[.int .i64 n] w fun e w' => e = .returned (.bool (tenB n)) ∧ w = w' := by
  by_cases h : 0 ≤ n
  · go_enter Try.func103, Try.ntmps103
    go_wp2
    go_ret
    exact ⟨by simp [tenB, h], rfl⟩
  · go_enter Try.func103, Try.ntmps103
    go_wp2
    go_ret
    exact ⟨by simp [tenB]; omega, rfl⟩

theorem equal_unitV (u v : U3) (w : World) : (binOp .eql 26 (.agg #[.int .i64 u.row, .int .i64 u.group, .int .i64 u.unit]) (.agg #[.int .i64 v.row, .int .i64 v.group, .int .i64 v.unit])).run Try.prog w = .ok (.bool (decide (u = v))) w := by
  have h := equal_unit u v w
  simp only [binOp]
  unfold U3.val at h
  simp [h]

theorem atU_take_none {l : List Ck} {u : U3} {k : Nat} {c : Ck} (h : l[k]? = some c) (h0 : atU (l.take k) u = none) (hc : c.lost = true ∨ c.pos ≠ u) : atU (l.take (k + 1)) u = none := by
  unfold atU at h0 ⊢
  rw [take_snoc' h, List.find?_append]
  rw [Option.map_eq_none_iff] at h0 ⊢
  rw [h0]
  rcases hc with hc | hc <;> simp [hc]
theorem atU_take_some {l : List Ck} {u : U3} {k : Nat} {c : Ck} (h : l[k]? = some c) (h0 : atU (l.take k) u = none) (h1 : c.lost = false) (h2 : c.pos = u) : atU l u = some c.id := by
  have e := List.getElem?_eq_some_iff.1 h
  unfold atU at h0 ⊢
  rw [Option.map_eq_none_iff] at h0
  conv => lhs; rw [← List.take_append_drop k l, List.drop_eq_getElem_cons e.1, e.2]
  rw [List.find?_append, h0]
  simp [h1, h2]

set_option maxHeartbeats 2000000 in
theorem rat_any (w : World) (rb : Nat) (lv : Value) (l : List Ck) (u : U3) (h : RTab w rb lv l) :
    Calls Try.prog 19 #[.pointer (some ⟨rb, 0, none⟩), .agg #[.int .i64 u.row, .int .i64 u.group, .int .i64 u.unit]] w
      fun e w' => e = .returned (.tuple #[.int .i64 ((atU l u).getD 0), .bool (atU l u).isSome]) ∧ Mod [] w w' := by
  obtain ⟨c0, hl, hinv, a, cap, rfl, hr⟩ := h.open
  obtain ⟨r, hrr⟩ : ∃ r, atU l u = r := ⟨_, rfl⟩
  obtain ⟨n, hn⟩ : ∃ n, l.length = n := ⟨_, rfl⟩
  have hrb := Go.block_lt_of_cell c0
  rw [hrr]
  rw [hn] at hl c0
  have HR := Lib.hid hr
  have HRr := Lib.hid hrr
  have HN := Lib.hid hn
  clear h hr hrr hn hinv
  go_enter Try.func19, Try.ntmps19
  go_wp2
  go_loopw [6] (fun s6 wr => ∃ k : Nat, k ≤ n ∧ s6 = .int .i64 k ∧ Hid (atU (l.take k) u = none) ∧ Mod [] w wr ∧ wr.cell? ⟨w.heap.size, 0, none⟩ = some (.int .i64 u.row) ∧ wr.cell? ⟨w.heap.size, 1, none⟩ = some (.int .i64 u.group) ∧ wr.cell? ⟨w.heap.size, 2, none⟩ = some (.int .i64 u.unit)) (fun s6 _ => n - (intOf s6).toNat)
  case atStart => exact ⟨0, by omega, rfl, Lib.hid rfl, (Mod.refl _ _).alloc _, by simp, by simp, by simp⟩
  case round =>
    obtain ⟨k, hk, rfl, HK, hm, u0, u1, u2⟩ := hrel
    have c0' := hm.cell c0 (by simp)
    by_cases hlt : k < n
    · obtain ⟨c, hx⟩ : ∃ c, l[k]? = some c := ⟨_, List.getElem?_eq_getElem (by have := HN.out; omega)⟩
      obtain ⟨b, rv, rfl, hrw, _, hd, _⟩ := HR.out k c hx
      have hrw1 := hrw.mod hm (by simp)
      have d0 := hrw1.at0 _ (Ck.c0 c rv)
      have d18 := hrw1.at 18 _ (Ck.c18 hd rv)
      have d19 := hrw1.at 19 _ (Ck.c19 hd rv)
      have d20 := hrw1.at 20 _ (Ck.c20 hd rv)
      have d21 := hrw1.at 21 _ (Ck.c21 hd rv)
      have hq := equal_unitV c.pos u
      have hi0 : (0 : Int) ≤ (k : Int) := by omega
      have hi1 : (k : Int) < (n : Int) := by omega
      have HX := Lib.hid hx
      clear hx hrw hrw1 hd c0
      cases hlost : c.lost with
      | true =>
        rw [hlost] at d21
        have HL := Lib.hid hlost
        clear hlost hq
        go_wp2
        go_quiet (fail)
        go_wp2
        go_roundw
        case rel => exact ⟨k + 1, by omega, by go_num, Lib.hid (atU_take_none HX.out HK.out (.inl HL.out)), hm.drewN _, u0, u1, u2⟩
        case measure => simp [intOf]; omega
      | false =>
        rw [hlost] at d21
        have HL := Lib.hid hlost
        clear hlost
        by_cases he : c.pos = u
        · have HE := Lib.hid he
          simp only [decide_eq_true he] at hq
          clear he
          go_wp2
          go_quiet (fail)
          go_wp2
          go_ret2
          obtain rfl : r = some c.id := by rw [← HRr.out]; exact atU_take_some HX.out HK.out HL.out HE.out
          exact ⟨rfl, hm.drewN _⟩
        · have HE := Lib.hid he
          simp only [decide_eq_false he] at hq
          clear he
          go_wp2
          go_quiet (fail)
          go_wp2
          go_roundw
          case rel => exact ⟨k + 1, by omega, by go_num, Lib.hid (atU_take_none HX.out HK.out (.inr HE.out)), hm.drewN _, u0, u1, u2⟩
          case measure => simp [intOf]; omega
    · obtain rfl : k = n := by omega
      go_wp2
      go_ret2
      obtain rfl : r = none := by
        rw [← HRr.out]
        have := HK.out
        rwa [List.take_of_length_le (by have := HN.out; omega)] at this
      exact ⟨rfl, hm⟩

end Go.Proofs.Ytknkifanpppglaa

/- Walks of the reference: Valid, Ids, Live, Lost, held, Count. -/
namespace Go.Proofs.Ytknkifanpppglaa
open Go.RowKit

set_option maxHeartbeats 2000000 in
theorem rvalid_any (u : U3) (w : World) : Calls Try.prog 33 #[.agg #[.int .i64 u.row, .int .i64 u.group, .int .i64 u.unit]] w (BoolPost u.ok w) := by
  obtain ⟨row, group, unit⟩ := u
  by_cases h0 : 0 ≤ row
  · by_cases h1 : row < 4096
    · by_cases h2 : 0 ≤ group
      · by_cases h3 : group < 64
        · by_cases h4 : 0 ≤ unit
          · by_cases h5 : unit < 32
            · have e : U3.ok ⟨row, group, unit⟩ = true := by simp [U3.ok]; omega
              rw [e]
              clear e
              go_enter Try.func33, Try.ntmps33
              go_wp2
              go_ret
              exact ⟨rfl, ((Mod.refl _ _).alloc _).alloc _⟩
            · have e : U3.ok ⟨row, group, unit⟩ = false := by simp [U3.ok]; omega
              rw [e]
              clear e
              go_enter Try.func33, Try.ntmps33
              go_wp2
              go_ret
              exact ⟨rfl, ((Mod.refl _ _).alloc _).alloc _⟩
          · have e : U3.ok ⟨row, group, unit⟩ = false := by simp [U3.ok]; omega
            rw [e]
            clear e
            go_enter Try.func33, Try.ntmps33
            go_wp2
            go_ret
            exact ⟨rfl, ((Mod.refl _ _).alloc _).alloc _⟩
        · have e : U3.ok ⟨row, group, unit⟩ = false := by simp [U3.ok]; omega
          rw [e]
          clear e
          go_enter Try.func33, Try.ntmps33
          go_wp2
          go_ret
          exact ⟨rfl, ((Mod.refl _ _).alloc _).alloc _⟩
      · have e : U3.ok ⟨row, group, unit⟩ = false := by simp [U3.ok]; omega
        rw [e]
        clear e
        go_enter Try.func33, Try.ntmps33
        go_wp2
        go_ret
        exact ⟨rfl, ((Mod.refl _ _).alloc _).alloc _⟩
    · have e : U3.ok ⟨row, group, unit⟩ = false := by simp [U3.ok]; omega
      rw [e]
      clear e
      go_enter Try.func33, Try.ntmps33
      go_wp2
      go_ret
      exact ⟨rfl, ((Mod.refl _ _).alloc _).alloc _⟩
  · have e : U3.ok ⟨row, group, unit⟩ = false := by simp [U3.ok]; omega
    rw [e]
    clear e
    go_enter Try.func33, Try.ntmps33
    go_wp2
    go_ret
    exact ⟨rfl, ((Mod.refl _ _).alloc _).alloc _⟩

set_option maxHeartbeats 1000000 in
theorem rids_any (w : World) (rb : Nat) (lv : Value) (l : List Ck) (h : RTab w rb lv l) :
    Calls Try.prog 65 #[.pointer (some ⟨rb, 0, none⟩)] w (IntsPost (l.map (·.id)) w) := by
  obtain ⟨c0, hl, hinv, a, cap, rfl, hr⟩ := h.open
  obtain ⟨n, hn⟩ : ∃ n, l.length = n := ⟨_, rfl⟩
  rw [hn] at hl c0
  have HR := Lib.hid hr
  have HN := Lib.hid hn
  clear h hr hn hinv
  go_enter Try.func65, Try.ntmps65
  go_wp2
  go_loopw [3, 4] (fun s3 s4 wr => ∃ k : Nat, k ≤ n ∧ s4 = .int .i64 k ∧ Hid (Ints wr s3 ((l.take k).map (·.id))) ∧ Fresh w s3 ∧ Mod [] w wr) (fun _ s4 _ => n - (intOf s4).toNat)
  case atStart => exact ⟨0, Nat.zero_le _, rfl, Own.nil _ _ _, (by intro g hg; simp [Value.ownBlock] at hg), Mod.refl _ _⟩
  case round =>
    obtain ⟨k, hk, rfl, HO, hfr, hm⟩ := hrel
    have c0' := hm.cell c0 (by simp)
    by_cases hlt : k < n
    · obtain ⟨c, hx⟩ : ∃ c, l[k]? = some c := ⟨_, List.getElem?_eq_getElem (by have := HN.out; omega)⟩
      obtain ⟨b, rv, rfl, hrw, _, _, _⟩ := HR.out k c hx
      have d0 := (hrw.mod hm (by simp)).at0 _ (Ck.c0 c rv)
      have HX := Lib.hid hx
      have htl := List.length_take_le k l
      clear hx hrw
      go_wp2_with (first | (at_builtin; refine wpList_append_Own sty_int rfl (.tmp 14) (.tmp 23) rfl u3 (.slice (some ⟨wr.heap.size, 0, none⟩) 1 1) rfl rfl _ [[Value.int .i64 c.id]] (Ints.mod0 ((Mod.refl [] wr).alloc _) HO.out) (Src.one rfl (Row.of_heap (heap_alloc_at _ _))) (by simp [Value.oneCell']) (by simp [maxLen]; omega) (by simp; omega) ?_; intro v' w3 hown' hm3 hfr'))
      go_roundw
      case rel =>
        refine ⟨k + 1, by omega, by go_num, ?_, hfr.or hfr' (by have := hm.size; simp; omega), (hm.alloc _).fresh hfr hm3⟩
        show Ints _ _ _
        rw [take_snoc' HX.out]
        simpa [Ints] using hown'
      case measure => simp [intOf]; omega
    · obtain rfl : k = n := by omega
      go_wp2
      go_ret
      refine ⟨u3, rfl, ?_, hm, hfr⟩
      have := HO.out
      rwa [List.take_of_length_le (by have := HN.out; omega)] at this

set_option maxHeartbeats 1000000 in
theorem rlive_any (w : World) (rb : Nat) (lv : Value) (l : List Ck) (row group : Int) (h : RTab w rb lv l) :
    Calls Try.prog 23 #[.pointer (some ⟨rb, 0, none⟩), .agg #[.int .i64 row, .int .i64 group]] w (IntsPost (liveL l row group) w) := by
  have HT := Lib.hid h
  clear h
  go_enter Try.func23, Try.ntmps23
  go_wp2
  go_loopw [5, 6] (fun s5 s6 wr => ∃ k : Nat, k ≤ 32 ∧ s6 = .int .i64 k ∧ Hid (Ints wr s5 (liveTo l row group k)) ∧ FreshN (w.heap.size + 1) s5 ∧ Mod [] w wr ∧ wr.cell? ⟨w.heap.size, 0, none⟩ = some (.int .i64 row) ∧ wr.cell? ⟨w.heap.size, 1, none⟩ = some (.int .i64 group)) (fun _ s6 _ => 32 - (intOf s6).toNat)
  case atStart => exact ⟨0, by omega, rfl, Own.nil _ _ _, FreshN.nil _, (Mod.refl _ _).alloc _, by simp, by simp⟩
  case round =>
    obtain ⟨k, hk, rfl, HO, hfr, hm, d0, d1⟩ := hrel
    have hll := liveTo_len l row group k
    by_cases hlt : k < 32
    · cases ha : atU l ⟨row, group, k⟩ with
      | none =>
        have HA := Lib.hid ha
        clear ha
        go_wp2_with (go_at_call 19; refine (rat_any _ rb lv l ⟨row, group, k⟩ (HT.out.mod0 hm)).mono ?_; rintro e w2 ⟨rfl, hm2⟩; rw [HA.out])
        go_roundw
        case rel =>
          refine ⟨k + 1, by omega, by go_num, ?_, hfr, hm.trans_nil hm2, hm2.cell d0 (by simp), hm2.cell d1 (by simp)⟩
          have e := liveTo_succ l row group k
          rw [HA.out] at e
          show Ints _ _ _
          rw [e]
          simpa using Ints.mod0 hm2 HO.out
        case measure => simp [intOf]; omega
      | some id =>
        have HA := Lib.hid ha
        clear ha
        go_wp2_with (first | (go_at_call 19; refine (rat_any _ rb lv l ⟨row, group, k⟩ (HT.out.mod0 hm)).mono ?_; rintro e w2 ⟨rfl, hm2⟩; rw [HA.out]) | (at_builtin; refine wpList_append_Own sty_int rfl (.tmp 22) (.tmp 24) rfl u5 (.slice (some ⟨w2.heap.size, 0, none⟩) 1 1) rfl rfl _ [[Value.int .i64 id]] (Ints.mod0 (hm2.alloc _) HO.out) (Src.one rfl (Row.of_heap (heap_alloc_at _ _))) (by simp [Value.oneCell']) (by simp [maxLen]; omega) (by simp; omega) ?_; intro v' w3 hown' hm3 hfr'; have hm03 := ((hm.trans_nil hm2).alloc (.cells #[.int .i64 id] 3)).fresh (FreshN.mono hfr (Nat.le_succ _)) hm3; have d0' := hm3.cell (b := w.heap.size) ((hm2.alloc (.cells #[.int .i64 id] 3)).cell d0 (by simp)) (hfr.notin (Nat.lt_succ_self _)); have d1' := hm3.cell (b := w.heap.size) ((hm2.alloc (.cells #[.int .i64 id] 3)).cell d1 (by simp)) (hfr.notin (Nat.lt_succ_self _))))
        go_roundw
        case rel =>
          have hsz : w.heap.size < wr.heap.size := Go.block_lt_of_cell d0
          have hsz2 := hm2.size
          refine ⟨k + 1, by omega, by go_num, ?_, hfr.or hfr' (by rw [alloc_size]; omega), hm03, d0', d1'⟩
          have e := liveTo_succ l row group k
          rw [HA.out] at e
          show Ints _ _ _
          rw [e]
          simpa [Ints] using hown'
        case measure => simp [intOf]; omega
    · obtain rfl : k = 32 := by omega
      go_wp2
      go_ret
      exact ⟨u5, rfl, HO.out, hm, FreshN.mono hfr (Nat.le_succ _)⟩

set_option maxHeartbeats 2000000 in
theorem rheld_any (w : World) (c : Ck) (rv : Value) (t : Int) (hd : c.dig.length = 16) (hr : Refs w rv c.refs) :
    Calls Try.prog 64 #[.agg (c.cells rv).toArray, .int .i64 t] w fun e w' => e = .returned (.int .i64 (heldL c.refs t)) ∧ Mod [] w w' := by
  obtain ⟨r, hrr⟩ : ∃ r, heldL c.refs t = r := ⟨_, rfl⟩
  obtain ⟨a, cap, rfl⟩ := hr.sliceLen
  have hlen : c.refs.length ≤ 9223372036854775807 := by
    rcases hr.shape with ⟨h1, h2⟩ | ⟨b, cap, h1, _, h2, h3, _⟩
    · rw [h2]; simp
    · unfold maxLen at h3; omega
  obtain ⟨n, hn⟩ : ∃ n, c.refs.length = n := ⟨_, rfl⟩
  rw [hn] at hlen hr
  rw [hrr, hn]
  obtain ⟨CA, hCA⟩ : ∃ CA, (c.cells (.slice a n cap)).toArray = CA := ⟨_, rfl⟩
  have a22 : CA[22]? = some (.slice a n cap) := by rw [← hCA]; simpa using Ck.c22 hd _
  rw [hCA]
  have w22 : (w.alloc (.cells CA 45)).cell? ⟨w.heap.size, 22, none⟩ = some (.slice a n cap) := by
    rw [cell_of_row _ _ _ _ _ _ (heap_alloc_at w _)]; exact a22
  have HRr := Lib.hid hrr
  have HN := Lib.hid hn
  have HR := Lib.hid hr
  clear hrr hn hr hCA hd
  go_enter Try.func64, Try.ntmps64
  go_wp2
  go_loopw [5] (fun s5 wr => ∃ k : Nat, k ≤ n ∧ s5 = .int .i64 k ∧ Hid (∀ j x, j < k → c.refs[j]? = some x → x.1 ≠ t) ∧ w.alloc (.cells CA 45) = wr) (fun s5 _ => n - (intOf s5).toNat)
  case atStart => exact ⟨0, by omega, rfl, Lib.hid (fun j x hj => by omega), rfl⟩
  case round =>
    obtain ⟨k, hk, rfl, HK, rfl⟩ := hrel
    by_cases hlt : k < n
    · obtain ⟨x, hx⟩ : ∃ x, c.refs[k]? = some x := ⟨_, List.getElem?_eq_getElem (by have := HN.out; omega)⟩
      obtain ⟨b, rfl, hrx⟩ := HR.out.cell hx
      have hrx1 := hrx.mod ((Mod.refl [] w).alloc (.cells CA 45)) (by simp)
      have x0 := hrx1.at0 _ rfl
      have x1 := hrx1.at 1 _ rfl
      have HX := Lib.hid hx
      clear hx hrx hrx1
      by_cases he : x.1 = t
      · have hb : (x.1 == t) = true := by simpa using he
        have HE := Lib.hid he
        clear he
        go_wp2
        go_ret
        obtain rfl : r = x.2 := by
          rw [← HRr.out]
          have e := List.getElem?_eq_some_iff.1 HX.out
          unfold heldL
          have hf : c.refs.find? (fun y => y.1 == t) = some x := by
            conv => lhs; rw [← List.take_append_drop k c.refs, List.drop_eq_getElem_cons e.1, e.2]
            rw [List.find?_append, List.find?_eq_none.2, Option.none_or, List.find?_cons_of_pos (by simpa using HE.out)]
            intro y hy
            obtain ⟨j, hj, rfl⟩ := List.getElem_of_mem hy
            have hj' : j < k := by rw [List.length_take] at hj; omega
            have hj2 : j < c.refs.length := by rw [List.length_take] at hj; omega
            have := HK.out j _ hj' (List.getElem?_eq_getElem hj2)
            rw [List.getElem_take]
            simpa using this
          rw [hf]; rfl
        exact ⟨rfl, (Mod.refl _ _).alloc _⟩
      · have hb : (x.1 == t) = false := by simpa using he
        have HE := Lib.hid he
        clear he
        go_wp2
        go_roundw
        case rel =>
          refine ⟨k + 1, by omega, by go_num, Lib.hid (fun j y hj hy => ?_), by first | rfl | trivial⟩
          by_cases e : j = k
          · subst e
            have h2 := HX.out
            rw [h2] at hy; cases hy; exact HE.out
          · exact HK.out j y (by omega) hy
        case measure => simp [intOf]; omega
    · obtain rfl : k = n := by omega
      go_wp2
      go_ret
      obtain rfl : r = 0 := by
        rw [← HRr.out]
        unfold heldL
        rw [List.find?_eq_none.2]
        · rfl
        · intro y hy
          obtain ⟨j, hj, rfl⟩ := List.getElem_of_mem hy
          have := HK.out j _ (by have := HN.out; omega) (List.getElem?_eq_getElem hj)
          simpa using this
      exact ⟨rfl, (Mod.refl _ _).alloc _⟩

set_option maxHeartbeats 1000000 in
theorem rcount_any (w : World) (rb : Nat) (lv : Value) (l : List Ck) (t : Int) (h : RTab w rb lv l) :
    Calls Try.prog 28 #[.pointer (some ⟨rb, 0, none⟩), .int .i64 t] w fun e w' => e = .returned (.int .i64 (countL l t)) ∧ Mod [] w w' := by
  obtain ⟨c0, hl, hinv, a, cap, rfl, hr⟩ := h.open
  have hcb := fun k => count_take_bounds hinv.each hl t k
  obtain ⟨n, hn⟩ : ∃ n, l.length = n := ⟨_, rfl⟩
  rw [hn] at hl c0
  have HR := Lib.hid hr
  have HN := Lib.hid hn
  have HB := Lib.hid hcb
  clear h hr hn hinv hcb
  go_enter Try.func28, Try.ntmps28
  go_wp2
  go_loopw [5, 6] (fun s5 s6 wr => ∃ k : Nat, k ≤ n ∧ s6 = .int .i64 k ∧ s5 = .int .i64 (countL (l.take k) t) ∧ Mod [] w wr) (fun _ s6 _ => n - (intOf s6).toNat)
  case atStart => exact ⟨0, Nat.zero_le _, rfl, rfl, Mod.refl _ _⟩
  case round =>
    obtain ⟨k, hk, rfl, rfl, hm⟩ := hrel
    have c0' := hm.cell c0 (by simp)
    by_cases hlt : k < n
    · obtain ⟨c, hx⟩ : ∃ c, l[k]? = some c := ⟨_, List.getElem?_eq_getElem (by have := HN.out; omega)⟩
      obtain ⟨b, rv, rfl, hrw, hrf, hd, hok⟩ := HR.out k c hx
      have hrw1 := hrw.mod hm (by simp)
      have hrfm := hrf.mod0 hm
      have hsn := count_snoc l t k c hx
      have b1 := HB.out k
      have b2 := HB.out (k + 1)
      rw [hsn] at b2
      have HRM := Lib.hid hrfm
      have HD := Lib.hid hd
      have HS := Lib.hid hsn
      clear hx hrw hrf hrfm hd hsn hok
      go_wp2_with (first | (refine wpList_load_at rfl 45 (.tmp 22) rfl _ Try.underlying45 rfl 23 info45 b (k * 23) (c.cells rv) rfl hrw1 (by rw [Ck.cells_len, HD.out]) ?_) | (go_at_call 64; refine (rheld_any wr c rv t HD.out HRM.out).mono ?_; rintro e w3 ⟨rfl, hm3⟩))
      go_roundw
      case rel => exact ⟨k + 1, by omega, by go_num, by rw [HS.out], hm.trans_nil hm3⟩
      case measure => simp [intOf]; omega
    · obtain rfl : k = n := by omega
      go_wp2
      go_ret
      exact ⟨ret_int (by rw [List.take_of_length_le (by have := HN.out; omega)]), hm⟩

end Go.Proofs.Ytknkifanpppglaa

/- Walks of the reference: Lost, Own, Get, total, with. -/
namespace Go.Proofs.Ytknkifanpppglaa
open Go.RowKit

theorem wpQuiet_load_at {P : Program} {ops : Array Oper} {C : World → Prop} {Q : Act → Prop} {rest : List Oper} {o : Oper} {a : Act} (ty : TypeId) (x : Operand) (ho : o.op = .load ty x) (hw : Region.wanted o (yielded ops a.tmps) = true)
    (d : TypeDesc) (hu : P.underlying ty = some d) (hd : (match d with | .struct _ | .array _ _ => true | _ => false) = true) (n : Nat) (hi : (P.info? ty).map (·.size) = some n)
    (b off : Nat) (cs : List Value) (hx : a.eval x = .pointer (some ⟨b, off, none⟩)) (hr : ∀ w, C w → Row w b off cs) (hn : cs.length = n)
    (h : wpQuiet P ops C Q rest (a.put o.dst (.agg cs.toArray))) : wpQuiet P ops C Q (o :: rest) a :=
  wpQuiet_step fun K hK => by
    rw [if_pos hw]
    refine ⟨.agg cs.toArray, fun w hC => ?_, hK _ h⟩
    unfold Oper.quietAt execOp
    simp only [ho, hx, Instr.loadAt, Instr.sureAddr, Sem.run_bind, Sem.run_pure, Result.andThen_ok, run_loadVar_at w b off ty cs d (hr w hC) hu hd (by rw [hi, hn])]
    exact ⟨rfl, rfl⟩

set_option maxRecDepth 100000 in
set_option maxHeartbeats 2000000 in
theorem rlost_any (w : World) (rb : Nat) (lv : Value) (l : List Ck) (d : List Int) (hd16 : d.length = 16) (h : RTab w rb lv l) :
    Calls Try.prog 26 #[.pointer (some ⟨rb, 0, none⟩), digV d] w (IntsPost (lostL l d) w) := by
  obtain ⟨c0, hl, hinv, a, cap, rfl, hr⟩ := h.open
  obtain ⟨D, hD⟩ : ∃ D, D = d.map (Value.int .u8) := ⟨_, rfl⟩
  have hDl : D.length = 16 := by rw [hD]; simp [hd16]
  have eD : digV d = .agg D.toArray := by rw [hD]; rfl
  rw [eD]
  obtain ⟨n, hn⟩ : ∃ n, l.length = n := ⟨_, rfl⟩
  rw [hn] at hl c0
  have hu42 := Try.underlying42
  have HDD := Lib.hid hD
  have HDl := Lib.hid hDl
  have Hd := Lib.hid hd16
  have HR := Lib.hid hr
  have HN := Lib.hid hn
  clear h hr hn hinv eD hD hDl hd16
  go_enter Try.func26, Try.ntmps26
  go_wp2
  go_loopw [5, 6] (fun s5 s6 wr => ∃ k : Nat, k ≤ n ∧ s6 = .int .i64 k ∧ Hid (Ints wr s5 (lostL (l.take k) d)) ∧ FreshN (w.heap.size + 1) s5 ∧ Mod [] w wr ∧ Row wr w.heap.size 0 D ∧ w.heap.size < wr.heap.size) (fun _ s6 _ => n - (intOf s6).toNat)
  case atStart => exact ⟨0, Nat.zero_le _, rfl, Own.nil _ _ _, FreshN.nil _, (Mod.refl _ _).alloc _, Row.of_heap (heap_alloc_at w _), by simp⟩
  case round =>
    obtain ⟨k, hk, rfl, HO, hfr, hm, hrD, hsz⟩ := hrel
    have c0' := hm.cell c0 (by simp)
    by_cases hlt : k < n
    · obtain ⟨c, hx⟩ : ∃ c, l[k]? = some c := ⟨_, List.getElem?_eq_getElem (by have := HN.out; omega)⟩
      obtain ⟨b, rv, rfl, hrw, _, hd, _⟩ := HR.out k c hx
      have hrw1 := hrw.mod hm (by simp)
      have d0 := hrw1.at0 _ (Ck.c0 c rv)
      have d21 := hrw1.at 21 _ (Ck.c21 hd rv)
      have hsn := lost_snoc l d k c hx
      have hln := lost_len l d k
      obtain ⟨C, hC⟩ : ∃ C, C = c.dig.map (Value.int .u8) := ⟨_, rfl⟩
      have hCl : C.length = 16 := by rw [hC]; simp [hd]
      have rC : Row wr b (k * 23 + 1) C := by rw [hC]; exact Ck.digRow hrw1
      have heq := equal_digL C D hC HDD.out hd Hd.out
      have hi0 : (0 : Int) ≤ (k : Int) := by omega
      have hi1 : (k : Int) < (n : Int) := by omega
      have HCl := Lib.hid hCl
      have HEq := Lib.hid heq
      clear hx hrw hrw1 hd hC hCl heq c0
      cases hlost : c.lost with
      | false =>
        rw [hlost] at hsn d21
        have HS := Lib.hid hsn
        clear hsn hlost
        go_wp2
        go_quiet (fail)
        go_wp2
        go_roundw
        case rel =>
          refine ⟨k + 1, by omega, by go_num, ?_, hfr, hm.drewN _, hrD.mod ((Mod.refl [] wr).drewN _) (by simp), by simpa using hsz⟩
          show Ints _ _ _
          rw [HS.out]
          simpa using Ints.mod0 ((Mod.refl [] wr).drewN _) HO.out
        case measure => simp [intOf]; omega
      | true =>
        rw [hlost] at hsn d21
        clear hlost
        have hiC : (Try.prog.info? 42).map (·.size) = some C.length := by rw [HCl.out]; exact info42
        have hiD : (Try.prog.info? 42).map (·.size) = some D.length := by rw [HDl.out]; exact info42
        by_cases hdd : c.dig = d
        · rw [hdd] at hsn
          have HS := Lib.hid hsn
          have hq : ∀ w, (binOp .eql 42 (.agg C.toArray) (.agg D.toArray)).run Try.prog w = .ok (.bool true) w := fun w => by rw [HEq.out]; simp [hdd]
          clear hsn hdd
          have lC : ∀ w', (∃ n, w' = wr.drewN n) → Row w' b (k * 23 + 1) C := by rintro _ ⟨n, rfl⟩; exact rC.mod ((Mod.refl [] wr).drewN n) (by simp)
          have lD : ∀ w', (∃ n, w' = wr.drewN n) → Row w' w.heap.size 0 D := by rintro _ ⟨n, rfl⟩; exact hrD.mod ((Mod.refl [] wr).drewN n) (by simp)
          have LC := Lib.hid lC
          have LD := Lib.hid lD
          clear hiC hiD rC lC lD hu42
          go_wp2
          refine wp_region_quiet_lit (by kernel_rfl) (by kernel_rfl) ?_
          repeat (any_goals (first | ((with_reducible refine wpQuiet_load_at 42 (.tmp 31) ?_ ?_ _ Try.underlying42 ?_ 16 info42 b (k * 23 + 1) C ?_ LC.out HCl.out ?_); (· rfl); (· rfl); (· rfl); (· rfl); (try simp only [Act.put, List.setIfInBounds_toArray, List.set_cons_zero, List.set_cons_succ])) | ((with_reducible refine wpQuiet_load_at 42 (.tmp 3) ?_ ?_ _ Try.underlying42 ?_ 16 info42 w.heap.size 0 D ?_ LD.out HDl.out ?_); (· rfl); (· rfl); (· rfl); (· rfl); (try simp only [Act.put, List.setIfInBounds_toArray, List.set_cons_zero, List.set_cons_succ])) | go_big_quiet_step (fail)))
          refine wpQuiet_nil ?_
          rintro _ ⟨nq, rfl⟩
          go_wp2_with (first | (at_builtin; refine wpList_append_Own sty_int rfl (.tmp 36) (.tmp 45) rfl u5 (.slice (some ⟨(wr.drewN nq).heap.size, 0, none⟩) 1 1) rfl rfl _ [[Value.int .i64 c.id]] (Ints.mod0 (((Mod.refl [] wr).drewN _).alloc _) HO.out) (Src.one rfl (Row.of_heap (heap_alloc_at _ _))) (by simp [Value.oneCell']) (by simp [maxLen]; omega) (by simp; omega) ?_; intro v' w3 hown' hm3 hfr'))
          go_roundw
          case rel =>
            refine ⟨k + 1, by omega, by go_num, ?_, hfr.or hfr' (by rw [alloc_size]; show _ ≤ wr.heap.size + 1; omega), ((hm.drewN nq).alloc _).fresh (hfr.mono (Nat.le_succ _)) hm3, ?_, ?_⟩
            · show Ints _ _ _
              rw [HS.out]
              simpa [Ints] using hown'
            · exact (hrD.mod (((Mod.refl [] wr).drewN nq).alloc (.cells #[.int .i64 c.id] 3)) (by simp)).mod hm3 (hfr.notin (Nat.lt_succ_self _))
            · have := hm3.size; rw [alloc_size] at this; have h2 : (wr.drewN nq).heap.size = wr.heap.size := by simp
              omega
          case measure => simp [intOf]; omega
        · have e : (c.dig == d) = false := by simpa using hdd
          rw [e] at hsn
          have HS := Lib.hid hsn
          have hq : ∀ w, (binOp .eql 42 (.agg C.toArray) (.agg D.toArray)).run Try.prog w = .ok (.bool false) w := fun w => by rw [HEq.out]; simp [hdd]
          clear hsn e hdd
          have lC : ∀ w', (∃ n, w' = wr.drewN n) → Row w' b (k * 23 + 1) C := by rintro _ ⟨n, rfl⟩; exact rC.mod ((Mod.refl [] wr).drewN n) (by simp)
          have lD : ∀ w', (∃ n, w' = wr.drewN n) → Row w' w.heap.size 0 D := by rintro _ ⟨n, rfl⟩; exact hrD.mod ((Mod.refl [] wr).drewN n) (by simp)
          have LC := Lib.hid lC
          have LD := Lib.hid lD
          clear hiC hiD rC lC lD hu42
          go_wp2
          refine wp_region_quiet_lit (by kernel_rfl) (by kernel_rfl) ?_
          repeat (any_goals (first | ((with_reducible refine wpQuiet_load_at 42 (.tmp 31) ?_ ?_ _ Try.underlying42 ?_ 16 info42 b (k * 23 + 1) C ?_ LC.out HCl.out ?_); (· rfl); (· rfl); (· rfl); (· rfl); (try simp only [Act.put, List.setIfInBounds_toArray, List.set_cons_zero, List.set_cons_succ])) | ((with_reducible refine wpQuiet_load_at 42 (.tmp 3) ?_ ?_ _ Try.underlying42 ?_ 16 info42 w.heap.size 0 D ?_ LD.out HDl.out ?_); (· rfl); (· rfl); (· rfl); (· rfl); (try simp only [Act.put, List.setIfInBounds_toArray, List.set_cons_zero, List.set_cons_succ])) | go_big_quiet_step (fail)))
          refine wpQuiet_nil ?_
          rintro _ ⟨nq, rfl⟩
          go_wp2
          go_roundw
          case rel =>
            refine ⟨k + 1, by omega, by go_num, ?_, hfr, hm.drewN _, hrD.mod ((Mod.refl [] wr).drewN _) (by simp), by simpa using hsz⟩
            show Ints _ _ _
            rw [HS.out]
            simpa using Ints.mod0 ((Mod.refl [] wr).drewN _) HO.out
          case measure => simp [intOf]; omega
    · obtain rfl : k = n := by omega
      go_wp2
      go_ret
      refine ⟨u5, rfl, ?_, hm, hfr.mono (Nat.le_succ _)⟩
      have := HO.out
      rwa [List.take_of_length_le (by have := HN.out; omega)] at this


def OwnPost (c : Ck) (w : World) (e : Ending) (w' : World) : Prop :=
  ∃ rv, e = .returned (.agg (c.cells rv).toArray) ∧ Refs w' rv c.refs ∧ Mod [] w w' ∧ ∀ g, rv.ownBlock = some g → w.heap.size ≤ g

set_option maxRecDepth 100000 in
set_option maxHeartbeats 2000000 in
theorem rown_any (w : World) (c : Ck) (rv : Value) (hd : c.dig.length = 16) (hr : Refs w rv c.refs) (hlen : c.refs.length ≤ 100000) :
    Calls Try.prog 62 #[.agg (c.cells rv).toArray] w (OwnPost c w) := by
  obtain ⟨CA, hCA⟩ : ∃ CA, (c.cells rv).toArray = CA := ⟨_, rfl⟩
  have a22 : CA[22]? = some rv := by rw [← hCA]; simpa using Ck.c22 hd _
  rw [hCA]
  obtain ⟨w1, hw1⟩ : ∃ w1, (w.alloc (.cells CA 45)).alloc (.cells zeroCells.toArray 45) = w1 := ⟨_, rfl⟩
  have hm1 : Mod [] w w1 := by rw [← hw1]; exact ((Mod.refl _ _).alloc _).alloc _
  have hb1 : w1.heap[w.heap.size]? = some (.cells (c.cells rv).toArray 45 (0, 0)) := by
    rw [← hw1, hCA]
    exact ((Mod.refl [] (w.alloc (.cells CA 45))).alloc _).heap (heap_alloc_at _ _) (by simp)
  have hb2 : w1.heap[w.heap.size + 1]? = some (.cells zeroCells.toArray 45 (0, 0)) := by
    rw [← hw1]
    have := heap_alloc_at (w.alloc (.cells CA 45)) (.cells zeroCells.toArray 45)
    rwa [alloc_size] at this
  have c22 : w1.cell? ⟨w.heap.size, 22, none⟩ = some rv := by rw [cell_of_row _ _ _ _ _ _ hb1]; simpa using Ck.c22 hd rv
  have HR := Lib.hid (hr.mod0 hm1)
  have HB1 := Lib.hid hb1
  have HB2 := Lib.hid hb2
  have HD := Lib.hid hd
  have HW := Lib.hid hw1
  clear hCA hw1 hb1 hb2 hr hd a22
  go_enter Try.func62, Try.ntmps62
  go_upto_region 2 with fail
  have e := HW.out
  unfold zeroCells at e
  rw [e]
  clear e HW
  go_wp2_with (first | (at_builtin; refine wpList_append_Own sty_ref rfl (.tmp 4) (.tmp 6) rfl (.slice none 0 0) rv rfl rfl [] _ (Own.nil _ _ _) (Own.src HR.out) (oneCell_refs _) (by simp [maxLen]; omega) (by simp; omega) ?_; intro v' w3 hown' hm3 hfr'; rw [List.nil_append] at hown'; have hm3' : Mod [] w1 w3 := hm3.mono (by simp [Value.ownBlock]); obtain ⟨sa, sn, sc, rfl⟩ := hown'.isSlice; have hb13 := hm3'.heap HB1.out (by simp); have HB13 := Lib.hid hb13; have hb23 := hm3'.heap HB2.out (by simp); have HB23 := Lib.hid hb23; clear hb13 hb23) | (refine wpList_store1 rfl 43 (.tmp 8) (.tmp 7) rfl info43 w.heap.size 22 45 (c.cells rv) (.slice sa sn sc) rfl rfl HB13.out rfl (by rw [Ck.cells_len, HD.out]; omega) ?_; intro w4 hh4 hm4; have hr4 : Row w4 w.heap.size 0 (c.cells (.slice sa sn sc)) := Row.of_heap (by rw [hh4, Ck.set22 HD.out]); clear hh4; have hb24 := hm4.heap HB23.out (by simp); have HB24 := Lib.hid hb24; clear hb24) | (refine wpList_load_at rfl 45 (.tmp 1) rfl _ Try.underlying45 rfl 23 info45 w.heap.size 0 (c.cells (.slice sa sn sc)) rfl hr4 (by rw [Ck.cells_len, HD.out]) ?_) | (refine wpList_store_at rfl 45 (.tmp 2) (.tmp 9) rfl 23 info45 (w.heap.size + 1) 0 45 zeroCells (c.cells (.slice sa sn sc)) rfl rfl HB24.out (by rw [Ck.cells_len, HD.out]) (oneCell_ck rfl) (by simp [zeroCells, Ck.cells_len, HD.out]) ?_; intro w5 hh5 hm5; have HH5 := Lib.hid hh5; clear hh5))
  have hr5 : Row w5 (w.heap.size + 1) 0 (c.cells (.slice sa sn sc)) := Row.of_heap (by rw [HH5.out, splice_all _ _ (by simp [zeroCells, Ck.cells_len, HD.out])])
  have hl := run_loadVar_at (P := Try.prog) w5 (w.heap.size + 1) 0 45 (c.cells (.slice sa sn sc)) _ hr5 Try.underlying45 rfl (by rw [info45, Ck.cells_len, HD.out])
  have hrf4 : Refs w4 (.slice sa sn sc) c.refs := Refs.mod hm4 (NoRefs.one HB13.out (by decide)) hown'
  have hrf5 : Refs w5 (.slice sa sn sc) c.refs := hrf4.mod hm5 (NoRefs.one HB24.out (by decide))
  refine bodyPost_ret (results_cell1 Try.results62 _ _ _ _ rfl hl) rfl ⟨.slice sa sn sc, rfl, hrf5, ?_, fun g hg => ?_⟩
  · exact (((hm1.trans_nil hm3').trans hm4 (by simp)).trans hm5 (by simp))
  · rcases hfr' with h1 | ⟨g', h1, h2⟩
    · rw [h1] at hg; simp [Value.ownBlock] at hg
    · rw [hg] at h1; cases h1
      have := hm1.size; omega

end Go.Proofs.Ytknkifanpppglaa

/- Walks of the reference: Get, total, with. -/
namespace Go.Proofs.Ytknkifanpppglaa
open Go.RowKit

theorem findI_some {l : List Ck} {id : Int} {k : Nat} (h : idxOf l id = some k) : findI l id = (k : Int) := by unfold findI; rw [h]
theorem findI_none {l : List Ck} {id : Int} (h : idxOf l id = none) : findI l id = -1 := by unfold findI; rw [h]

set_option maxRecDepth 100000 in
set_option maxHeartbeats 2000000 in
theorem rget_any (w : World) (rb : Nat) (lv : Value) (l : List Ck) (id : Int) (h : RTab w rb lv l) :
    Calls Try.prog 17 #[.pointer (some ⟨rb, 0, none⟩), .int .i64 id] w (GetPost l id w) := by
  obtain ⟨c0, hl, hinv, a, cap, rfl, hr⟩ := h.open
  have HT := Lib.hid h
  obtain ⟨w1, hw1⟩ : ∃ w1, w.alloc (.cells zeroCells.toArray 45) = w1 := ⟨_, rfl⟩
  have hm1 : Mod [] w w1 := by rw [← hw1]; exact (Mod.refl _ _).alloc _
  have hb0 : w1.heap[w.heap.size]? = some (.cells zeroCells.toArray 45 (0, 0)) := by rw [← hw1]; exact heap_alloc_at w _
  have c0' := hm1.cell c0 (by simp)
  have H0 := Lib.hid hb0
  have HW := Lib.hid hw1
  have hs1 : w1.heap.size = w.heap.size + 1 := by rw [← hw1]; exact alloc_size _ _
  clear h hb0 hw1 c0
  cases hi : idxOf l id with
  | none =>
    have hg : getC l id = none := by rw [getC_idx, hi]; rfl
    have hf := findI_none hi
    have HG := Lib.hid hg
    have HF := Lib.hid hf
    clear hi hg hf hr hs1
    go_enter Try.func17, Try.ntmps17
    go_upto_region 1 with fail
    have e := HW.out
    unfold zeroCells at e
    rw [e]
    clear e HW
    go_wp2_with (first | (go_at_call 61; refine (rfind_any _ rb _ l id (HT.out.mod0 hm1)).mono ?_; rintro e w' ⟨rfl, rfl⟩; rw [HF.out]) | (refine wpList_store_at rfl 45 (.tmp 4) (.tmp 12) rfl 23 info45 w.heap.size 0 45 zeroCells zeroCells rfl rfl H0.out rfl (oneCell_ck (c := zeroCk) (rv := nilV) rfl) (by simp [zeroCells]) ?_; intro w2 hh2 hm2; have HH2 := Lib.hid hh2; clear hh2))
    have hr2 := Row.of_heap (cs := zeroCells) (by rw [HH2.out, splice_all _ _ rfl])
    have hl2 := run_loadVar_at (P := Try.prog) w2 w.heap.size 0 45 zeroCells _ hr2 Try.underlying45 rfl info45
    exact bodyPost_ret (results_cell_tmp Try.results17 _ _ _ _ _ rfl rfl hl2) rfl ⟨hm1.trans hm2 (by simp), .inl ⟨HG.out, rfl⟩⟩
  | some k =>
    obtain ⟨c, hk, hid, _⟩ := idxOf_some.1 hi
    have hg : getC l id = some c := by rw [getC_idx, hi]; exact hk
    have hf := findI_some hi
    obtain ⟨b, rv, rfl, hrow, hrf, hd, hok⟩ := hr k c hk
    have hrow1 := hrow.mod hm1 (by simp)
    have hrf1 := hrf.mod0 hm1
    have hkl : k < l.length := (List.getElem?_eq_some_iff.1 hk).1
    have hrl := hok.len
    have HG := Lib.hid hg
    have HF := Lib.hid hf
    have HR := Lib.hid hrow1
    have HRF := Lib.hid hrf1
    have HD := Lib.hid hd
    clear hi hk hid hg hf hr hrow hrow1 hrf hrf1 hd hok hinv
    go_enter Try.func17, Try.ntmps17
    go_upto_region 1 with fail
    have e := HW.out
    unfold zeroCells at e
    rw [e]
    clear e HW
    go_wp2_with (first | (go_at_call 61; refine (rfind_any _ rb _ l id (HT.out.mod0 hm1)).mono ?_; rintro e w' ⟨rfl, rfl⟩; rw [HF.out]) | (refine wpList_load_at rfl 45 (.tmp 18) rfl _ Try.underlying45 rfl 23 info45 b (k * 23) (c.cells rv) rfl HR.out (by rw [Ck.cells_len, HD.out]) ?_) | (go_at_call 62; refine (rown_any _ c rv HD.out HRF.out (by omega)).mono ?_; rintro e w3 ⟨rv', rfl, hrf3, hm3, hfr3⟩; have hb3 := hm3.heap H0.out (by simp); have HB3 := Lib.hid hb3; clear hb3) | (refine wpList_store_at rfl 45 (.tmp 4) (.tmp 20) rfl 23 info45 w.heap.size 0 45 zeroCells (c.cells rv') rfl rfl HB3.out (by rw [Ck.cells_len, HD.out]) (oneCell_ck hrf3.one) (by simp [zeroCells, Ck.cells_len, HD.out]) ?_; intro w4 hh4 hm4; have HH4 := Lib.hid hh4; clear hh4))
    have hr4 : Row w4 w.heap.size 0 (c.cells rv') := Row.of_heap (by rw [HH4.out, splice_all _ _ (by simp [zeroCells, Ck.cells_len, HD.out])])
    have hl4 := run_loadVar_at (P := Try.prog) w4 w.heap.size 0 45 (c.cells rv') _ hr4 Try.underlying45 rfl (by rw [info45, Ck.cells_len, HD.out])
    have hrf4 := hrf3.mod hm4 (NoRefs.one HB3.out (by decide))
    refine bodyPost_ret (results_cell_tmp Try.results17 _ _ _ _ _ rfl rfl hl4) rfl ⟨(hm1.trans_nil hm3).trans hm4 (by simp), .inr ⟨c, rv', HG.out, HD.out, rfl, hrf4, fun g hg => ?_⟩⟩
    have := hfr3 g hg
    omega

set_option maxHeartbeats 1000000 in
theorem rtotal_any (w : World) (rv : Value) (r : List (Int × Int)) (h : Refs w rv r) (hp : ∀ x ∈ r, 1 ≤ x.2) (ht : totalL r ≤ most) (hl : r.length ≤ 65536) :
    Calls Try.prog 92 #[rv] w fun e w' => e = .returned (.int .i64 (totalL r)) ∧ w = w' := by
  unfold most at ht
  obtain ⟨a, cap, rfl⟩ := h.sliceLen
  have hb0 := total_take_le hp
  obtain ⟨n, hn⟩ : ∃ n, r.length = n := ⟨_, rfl⟩
  rw [hn] at hl h
  rw [hn]
  have HR := Lib.hid h
  have HP := Lib.hid hp
  have HB := Lib.hid hb0
  have HN := Lib.hid hn
  clear h hp hb0 hn
  go_enter Try.func92, Try.ntmps92
  go_wp2
  go_loopw [3, 4] (fun s3 s4 wr => ∃ k : Nat, k ≤ n ∧ s4 = .int .i64 k ∧ s3 = .int .i64 (totalL (r.take k)) ∧ w = wr) (fun _ s4 _ => n - (intOf s4).toNat)
  case atStart => exact ⟨0, Nat.zero_le _, rfl, rfl, rfl⟩
  case round =>
    obtain ⟨k, hk, rfl, rfl, rfl⟩ := hrel
    by_cases hlt : k < n
    · obtain ⟨x, hx⟩ : ∃ x, r[k]? = some x := ⟨_, List.getElem?_eq_getElem (by have := HN.out; omega)⟩
      obtain ⟨b, rfl, hrw⟩ := HR.out.cell hx
      have x1 := hrw.at 1 _ rfl
      have hs := total_take r k x hx
      have b1 := HB.out k
      have b2 := HB.out (k + 1)
      rw [hs] at b2
      have b3 := HP.out x (List.mem_of_getElem? hx)
      have HS := Lib.hid hs
      clear hx hs hrw
      go_wp2
      go_roundw
      case rel => exact ⟨k + 1, by omega, by go_num, int_eq (by rw [HS.out]), by first | rfl | trivial⟩
      case measure => simp [intOf]; omega
    · obtain rfl : k = n := by omega
      go_wp2
      go_ret
      exact ⟨ret_int (by rw [List.take_of_length_le (by have := HN.out; omega)]), rfl⟩

/-- the references below a tenant, from a rising list -/
theorem filter_lt_take {r : List (Int × Int)} (hr : Rising r) {t : Int} : ∀ {k : Nat}, (∀ j x, j < k → r[j]? = some x → x.1 < t) → (∀ x, r[k]? = some x → ¬ x.1 < t) → r.filter (fun x => decide (x.1 < t)) = r.take k := by
  induction r with
  | nil => intro k _ _; simp
  | cons a r ih =>
    intro k h1 h2
    cases k with
    | zero =>
      have h3 := h2 a rfl
      rw [List.take_zero, List.filter_eq_nil_iff]
      intro x hx
      rcases List.mem_cons.1 hx with rfl | hx
      · simpa using h3
      · have := (List.pairwise_cons.1 hr).1 x hx
        simp; omega
    | succ k =>
      have h3 := h1 0 a (by omega) rfl
      rw [List.filter_cons, if_pos (by simpa using h3), List.take_succ_cons]
      congr 1
      exact ih (List.pairwise_cons.1 hr).2 (fun j x hj hx => h1 (j + 1) x (by omega) (by simpa using hx)) (fun x hx => h2 x (by simpa using hx))

theorem filter_gt_snoc (r : List (Int × Int)) (t : Int) {k : Nat} {x : Int × Int} (h : r[k]? = some x) : (r.take (k + 1)).filter (fun y => decide (t < y.1)) = (r.take k).filter (fun y => decide (t < y.1)) ++ if t < x.1 then [x] else [] := by
  rw [take_snoc' h, List.filter_append]
  by_cases e : t < x.1 <;> simp [e]

end Go.Proofs.Ytknkifanpppglaa

/- Walks of the reference: with. -/
namespace Go.Proofs.Ytknkifanpppglaa
open Go.RowKit

theorem Refs.append1 {w3 : World} {v' : Value} {r : List (Int × Int)} {x : Int × Int} (h : Own w3 113 2 v' (r.map refCells ++ [[.int .i64 x.1, .int .i64 x.2]])) : Refs w3 v' (r ++ [x]) := by
  unfold Refs
  rw [List.map_append]
  exact h

set_option maxRecDepth 100000 in
set_option maxHeartbeats 4000000 in
theorem rwith_any (w : World) (rv : Value) (r : List (Int × Int)) (t n : Int) (h : Refs w rv r) (hr : Rising r) (hl : r.length ≤ 5000) :
    Calls Try.prog 104 #[rv, .int .i64 t, .int .i64 n] w (RefsPost (withL r t n) w) := by
  obtain ⟨a, cap, rfl⟩ := h.sliceLen
  obtain ⟨W, hW⟩ : ∃ W, withL r t n = W := ⟨_, rfl⟩
  obtain ⟨m, hm0⟩ : ∃ m, r.length = m := ⟨_, rfl⟩
  rw [hW]
  rw [hm0] at hl h
  rw [hm0]
  have HW := Lib.hid hW
  have HM := Lib.hid hm0
  have HR := Lib.hid h
  have HRi := Lib.hid hr
  clear hW hm0 h hr
  go_enter Try.func104, Try.ntmps104
  go_wp2
  go_loopw [7, 8] (fun s7 s8 wr => ∃ k : Nat, k ≤ m ∧ s8 = .int .i64 k ∧ Hid (Refs wr s7 (r.take k)) ∧ FreshN w.heap.size s7 ∧ Hid (∀ j x, j < k → r[j]? = some x → x.1 < t) ∧ Mod [] w wr) (fun _ s8 _ => m - (intOf s8).toNat)
  case atStart => exact ⟨0, by omega, rfl, Own.nil _ _ _, FreshN.nil _, Lib.hid (fun j x hj => by omega), Mod.refl _ _⟩
  case round =>
    obtain ⟨k, hk, rfl, HO, hfr, HK, hm⟩ := hrel
    by_cases hlt : k < m
    · obtain ⟨x, hx⟩ : ∃ x, r[k]? = some x := ⟨_, List.getElem?_eq_getElem (by have := HM.out; omega)⟩
      obtain ⟨b, rfl, hrw⟩ := HR.out.cell hx
      have hrw1 := hrw.mod hm (by simp)
      have x0 := hrw1.at0 _ rfl
      have htl := List.length_take_le k r
      have HX := Lib.hid hx
      clear hx hrw
      by_cases hc : x.1 < t
      · go_wp2_with (first | (refine wpList_load_at rfl 113 (.tmp 28) rfl _ Try.underlying113 rfl 2 infoRef b (k * 2) [.int .i64 x.1, .int .i64 x.2] rfl hrw1 rfl ?_) | (at_builtin; refine wpList_append_Own sty_ref rfl (.tmp 25) (.tmp 30) rfl u7 (.slice (some ⟨wr.heap.size, 0, none⟩) 1 1) rfl rfl _ [[.int .i64 x.1, .int .i64 x.2]] (Refs.mod0 ((Mod.refl [] wr).alloc _) HO.out) (Src.one rfl (Row.of_heap (heap_alloc_at _ _))) (by simp [Value.oneCell']) (by simp [maxLen]; omega) (by simp; omega) ?_; intro v' w3 hown' hm3 hfr'))
        go_roundw
        case rel =>
          refine ⟨k + 1, by omega, by go_num, ?_, hfr.or hfr' (by rw [alloc_size]; have := hm.size; omega), Lib.hid (fun j y hj hy => ?_), (hm.alloc _).fresh hfr hm3⟩
          · show Refs _ _ _
            rw [take_snoc' HX.out]
            exact Refs.append1 hown'
          · by_cases e : j = k
            · subst e
              have := HX.out
              rw [this] at hy; cases hy; exact hc
            · exact HK.out j y (by omega) hy
        case measure => simp [intOf]; omega
      · have hfil := filter_lt_take HRi.out HK.out (fun y hy => by rw [HX.out] at hy; cases hy; exact hc)
        have HF := Lib.hid hfil
        clear hfil
        by_cases hn : n > 0
        · have hn' : 0 < n := hn
          go_wp2_with (first | (at_builtin; refine wpList_append_Own sty_ref rfl (.tmp 34) (.tmp 38) rfl u7 (.slice (some ⟨wr.heap.size, 0, none⟩) 1 1) rfl rfl _ [[.int .i64 t, .int .i64 n]] (Refs.mod0 ((Mod.refl [] wr).alloc _) HO.out) (Src.one rfl (Row.of_heap (heap_alloc_at _ _))) (by simp [Value.oneCell']) (by simp [maxLen]; omega) (by simp; omega) ?_; intro v' w3 hown' hm3 hfr'; have HO2 : Hid (Refs w3 v' (r.take k ++ [(t, n)])) := Lib.hid (Refs.append1 (x := (t, n)) hown'); have hfr2 := hfr.or hfr' (by rw [alloc_size]; have := hm.size; omega); have hm2 := (hm.alloc _).fresh hfr hm3; clear hown'))
          obtain ⟨wo, hwo⟩ : ∃ wo : World, wo = wr := ⟨_, rfl⟩
          obtain ⟨X, hX⟩ : ∃ X, X = r.take k ++ [(t, n)] := ⟨_, rfl⟩
          have hXl : X.length ≤ 5001 := by rw [hX]; simp only [List.length_append, List.length_cons, List.length_nil]; omega
          have HX0 := Lib.hid hX
          clear hX
          go_loopw [7, 9] (fun s7 s9 wq => ∃ j : Nat, j ≤ m ∧ s9 = .int .i64 j ∧ Hid (Refs wq s7 (X ++ (r.take j).filter (fun y => decide (t < y.1)))) ∧ FreshN w.heap.size s7 ∧ Mod [] w wq) (fun _ s9 _ => m - (intOf s9).toNat)
          case atStart => exact ⟨0, by omega, rfl, Lib.hid (by rw [HX0.out]; simpa using HO2.out), hfr2, hm2⟩
          case round =>
            obtain ⟨j, hj, rfl, HQ, hfq, hmq⟩ := hrel
            have hfl : ((r.take j).filter (fun y => decide (t < y.1))).length ≤ 5000 := by
              have h1 := List.length_filter_le (fun y : Int × Int => decide (t < y.1)) (r.take j)
              have h2 := List.length_take_le j r
              omega
            by_cases hlj : j < m
            · obtain ⟨y, hy⟩ : ∃ y, r[j]? = some y := ⟨_, List.getElem?_eq_getElem (by have := HM.out; omega)⟩
              obtain ⟨b2, hb2, hrwy⟩ := HR.out.cell hy
              cases hb2
              have hrwy1 := hrwy.mod hmq (by simp)
              have y0 := hrwy1.at0 _ rfl
              have hsn := filter_gt_snoc r t hy
              clear hy hrwy
              by_cases hc2 : t < y.1
              · rw [if_pos hc2] at hsn
                have HS := Lib.hid hsn
                clear hsn
                go_wp2_with (first | (refine wpList_load_at rfl 113 (.tmp 56) rfl _ Try.underlying113 rfl 2 infoRef b (j * 2) [.int .i64 y.1, .int .i64 y.2] rfl hrwy1 rfl ?_) | (at_builtin; refine wpList_append_Own sty_ref rfl (.tmp 53) (.tmp 58) rfl u7 (.slice (some ⟨wr.heap.size, 0, none⟩) 1 1) rfl rfl _ [[.int .i64 y.1, .int .i64 y.2]] (Refs.mod0 ((Mod.refl [] wr).alloc _) HQ.out) (Src.one rfl (Row.of_heap (heap_alloc_at _ _))) (by simp [Value.oneCell']) (by simp [maxLen]; omega) (by simp; omega) ?_; intro v' w3 hown' hm3 hfr'))
                go_roundw
                case rel =>
                  refine ⟨j + 1, by omega, by go_num, ?_, hfq.or hfr' (by rw [alloc_size]; have := hmq.size; omega), (hmq.alloc _).fresh hfq hm3⟩
                  show Refs _ _ _
                  rw [HS.out, ← List.append_assoc]
                  exact Refs.append1 hown'
                case measure => simp [intOf]; omega
              · rw [if_neg hc2] at hsn
                have HS := Lib.hid hsn
                clear hsn
                go_wp2
                go_roundw
                case rel =>
                  refine ⟨j + 1, by omega, by go_num, ?_, hfq, hmq⟩
                  show Refs _ _ _
                  rw [HS.out, List.append_nil]
                  exact HQ.out
                case measure => simp [intOf]; omega
            · obtain rfl : j = m := by omega
              go_wp2
              go_ret
              refine ⟨u7, rfl, ?_, hmq, hfq⟩
              have h1 := HQ.out
              rw [List.take_of_length_le (by have := HM.out; omega), HX0.out] at h1
              rw [← HW.out]
              unfold withL
              rw [HF.out, if_pos hn, ← List.append_assoc]
              exact h1
        · have hn' : ¬ 0 < n := hn
          have HO2 : Hid (Refs wr u7 (r.take k ++ [])) := Lib.hid (by rw [List.append_nil]; exact HO.out)
          have hfr2 := hfr
          have hm2 := hm
          go_wp2_with fail
          obtain ⟨wo, hwo⟩ : ∃ wo : World, wo = wr := ⟨_, rfl⟩
          obtain ⟨X, hX⟩ : ∃ X, X = r.take k ++ [] := ⟨_, rfl⟩
          have hXl : X.length ≤ 5001 := by rw [hX]; simp only [List.length_append, List.length_nil]; omega
          have HX0 := Lib.hid hX
          clear hX
          go_loopw [7, 9] (fun s7 s9 wq => ∃ j : Nat, j ≤ m ∧ s9 = .int .i64 j ∧ Hid (Refs wq s7 (X ++ (r.take j).filter (fun y => decide (t < y.1)))) ∧ FreshN w.heap.size s7 ∧ Mod [] w wq) (fun _ s9 _ => m - (intOf s9).toNat)
          case atStart => exact ⟨0, by omega, rfl, Lib.hid (by rw [HX0.out]; simpa using HO2.out), hfr2, hm2⟩
          case round =>
            obtain ⟨j, hj, rfl, HQ, hfq, hmq⟩ := hrel
            have hfl : ((r.take j).filter (fun y => decide (t < y.1))).length ≤ 5000 := by
              have h1 := List.length_filter_le (fun y : Int × Int => decide (t < y.1)) (r.take j)
              have h2 := List.length_take_le j r
              omega
            by_cases hlj : j < m
            · obtain ⟨y, hy⟩ : ∃ y, r[j]? = some y := ⟨_, List.getElem?_eq_getElem (by have := HM.out; omega)⟩
              obtain ⟨b2, hb2, hrwy⟩ := HR.out.cell hy
              cases hb2
              have hrwy1 := hrwy.mod hmq (by simp)
              have y0 := hrwy1.at0 _ rfl
              have hsn := filter_gt_snoc r t hy
              clear hy hrwy
              by_cases hc2 : t < y.1
              · rw [if_pos hc2] at hsn
                have HS := Lib.hid hsn
                clear hsn
                go_wp2_with (first | (refine wpList_load_at rfl 113 (.tmp 56) rfl _ Try.underlying113 rfl 2 infoRef b (j * 2) [.int .i64 y.1, .int .i64 y.2] rfl hrwy1 rfl ?_) | (at_builtin; refine wpList_append_Own sty_ref rfl (.tmp 53) (.tmp 58) rfl u7 (.slice (some ⟨wr.heap.size, 0, none⟩) 1 1) rfl rfl _ [[.int .i64 y.1, .int .i64 y.2]] (Refs.mod0 ((Mod.refl [] wr).alloc _) HQ.out) (Src.one rfl (Row.of_heap (heap_alloc_at _ _))) (by simp [Value.oneCell']) (by simp [maxLen]; omega) (by simp; omega) ?_; intro v' w3 hown' hm3 hfr'))
                go_roundw
                case rel =>
                  refine ⟨j + 1, by omega, by go_num, ?_, hfq.or hfr' (by rw [alloc_size]; have := hmq.size; omega), (hmq.alloc _).fresh hfq hm3⟩
                  show Refs _ _ _
                  rw [HS.out, ← List.append_assoc]
                  exact Refs.append1 hown'
                case measure => simp [intOf]; omega
              · rw [if_neg hc2] at hsn
                have HS := Lib.hid hsn
                clear hsn
                go_wp2
                go_roundw
                case rel =>
                  refine ⟨j + 1, by omega, by go_num, ?_, hfq, hmq⟩
                  show Refs _ _ _
                  rw [HS.out, List.append_nil]
                  exact HQ.out
                case measure => simp [intOf]; omega
            · obtain rfl : j = m := by omega
              go_wp2
              go_ret
              refine ⟨u7, rfl, ?_, hmq, hfq⟩
              have h1 := HQ.out
              rw [List.take_of_length_le (by have := HM.out; omega), HX0.out] at h1
              rw [← HW.out]
              unfold withL
              rw [HF.out, if_neg (by omega), ← List.append_assoc]
              exact h1
    · obtain rfl : k = m := by omega
      have hfil := filter_lt_take (t := t) HRi.out HK.out (fun y hy => by have := (List.getElem?_eq_some_iff.1 hy).1; have := HM.out; omega)
      have HF := Lib.hid hfil
      have htl := List.length_take_le k r
      clear hfil
      by_cases hn : n > 0
      · have hn' : 0 < n := hn
        go_wp2_with (first | (at_builtin; refine wpList_append_Own sty_ref rfl (.tmp 34) (.tmp 38) rfl u7 (.slice (some ⟨wr.heap.size, 0, none⟩) 1 1) rfl rfl _ [[.int .i64 t, .int .i64 n]] (Refs.mod0 ((Mod.refl [] wr).alloc _) HO.out) (Src.one rfl (Row.of_heap (heap_alloc_at _ _))) (by simp [Value.oneCell']) (by simp [maxLen]; omega) (by simp; omega) ?_; intro v' w3 hown' hm3 hfr'; have HO2 : Hid (Refs w3 v' (r.take k ++ [(t, n)])) := Lib.hid (Refs.append1 (x := (t, n)) hown'); have hfr2 := hfr.or hfr' (by rw [alloc_size]; have := hm.size; omega); have hm2 := (hm.alloc _).fresh hfr hm3; clear hown'))
        obtain ⟨wo, hwo⟩ : ∃ wo : World, wo = wr := ⟨_, rfl⟩
        obtain ⟨X, hX⟩ : ∃ X, X = r.take k ++ [(t, n)] := ⟨_, rfl⟩
        have hXl : X.length ≤ 5001 := by rw [hX]; simp only [List.length_append, List.length_cons, List.length_nil]; omega
        have HX0 := Lib.hid hX
        clear hX
        go_loopw [7, 9] (fun s7 s9 wq => ∃ j : Nat, j ≤ k ∧ s9 = .int .i64 j ∧ Hid (Refs wq s7 (X ++ (r.take j).filter (fun y => decide (t < y.1)))) ∧ FreshN w.heap.size s7 ∧ Mod [] w wq) (fun _ s9 _ => k - (intOf s9).toNat)
        case atStart => exact ⟨0, by omega, rfl, Lib.hid (by rw [HX0.out]; simpa using HO2.out), hfr2, hm2⟩
        case round =>
          obtain ⟨j, hj, rfl, HQ, hfq, hmq⟩ := hrel
          have hfl : ((r.take j).filter (fun y => decide (t < y.1))).length ≤ 5000 := by
            have h1 := List.length_filter_le (fun y : Int × Int => decide (t < y.1)) (r.take j)
            have h2 := List.length_take_le j r
            omega
          by_cases hlj : j < k
          · obtain ⟨y, hy⟩ : ∃ y, r[j]? = some y := ⟨_, List.getElem?_eq_getElem (by have := HM.out; omega)⟩
            obtain ⟨b2, hb2, hrwy⟩ := HR.out.cell hy
            subst hb2
            have hrwy1 := hrwy.mod hmq (by simp)
            have y0 := hrwy1.at0 _ rfl
            have hsn := filter_gt_snoc r t hy
            clear hy hrwy
            by_cases hc2 : t < y.1
            · rw [if_pos hc2] at hsn
              have HS := Lib.hid hsn
              clear hsn
              go_wp2_with (first | (refine wpList_load_at rfl 113 (.tmp 56) rfl _ Try.underlying113 rfl 2 infoRef b2 (j * 2) [.int .i64 y.1, .int .i64 y.2] rfl hrwy1 rfl ?_) | (at_builtin; refine wpList_append_Own sty_ref rfl (.tmp 53) (.tmp 58) rfl u7 (.slice (some ⟨wr.heap.size, 0, none⟩) 1 1) rfl rfl _ [[.int .i64 y.1, .int .i64 y.2]] (Refs.mod0 ((Mod.refl [] wr).alloc _) HQ.out) (Src.one rfl (Row.of_heap (heap_alloc_at _ _))) (by simp [Value.oneCell']) (by simp [maxLen]; omega) (by simp; omega) ?_; intro v' w3 hown' hm3 hfr'))
              go_roundw
              case rel =>
                refine ⟨j + 1, by omega, by go_num, ?_, hfq.or hfr' (by rw [alloc_size]; have := hmq.size; omega), (hmq.alloc _).fresh hfq hm3⟩
                show Refs _ _ _
                rw [HS.out, ← List.append_assoc]
                exact Refs.append1 hown'
              case measure => simp [intOf]; omega
            · rw [if_neg hc2] at hsn
              have HS := Lib.hid hsn
              clear hsn
              go_wp2
              go_roundw
              case rel =>
                refine ⟨j + 1, by omega, by go_num, ?_, hfq, hmq⟩
                show Refs _ _ _
                rw [HS.out, List.append_nil]
                exact HQ.out
              case measure => simp [intOf]; omega
          · obtain rfl : j = k := by omega
            go_wp2
            go_ret
            refine ⟨u7, rfl, ?_, hmq, hfq⟩
            have h1 := HQ.out
            rw [List.take_of_length_le (by have := HM.out; omega), HX0.out] at h1
            rw [← HW.out]
            unfold withL
            rw [HF.out, if_pos hn, ← List.append_assoc]
            exact h1
      · have hn' : ¬ 0 < n := hn
        have HO2 : Hid (Refs wr u7 (r.take k ++ [])) := Lib.hid (by rw [List.append_nil]; exact HO.out)
        have hfr2 := hfr
        have hm2 := hm
        go_wp2_with fail
        obtain ⟨wo, hwo⟩ : ∃ wo : World, wo = wr := ⟨_, rfl⟩
        obtain ⟨X, hX⟩ : ∃ X, X = r.take k ++ [] := ⟨_, rfl⟩
        have hXl : X.length ≤ 5001 := by rw [hX]; simp only [List.length_append, List.length_nil]; omega
        have HX0 := Lib.hid hX
        clear hX
        go_loopw [7, 9] (fun s7 s9 wq => ∃ j : Nat, j ≤ k ∧ s9 = .int .i64 j ∧ Hid (Refs wq s7 (X ++ (r.take j).filter (fun y => decide (t < y.1)))) ∧ FreshN w.heap.size s7 ∧ Mod [] w wq) (fun _ s9 _ => k - (intOf s9).toNat)
        case atStart => exact ⟨0, by omega, rfl, Lib.hid (by rw [HX0.out]; simpa using HO2.out), hfr2, hm2⟩
        case round =>
          obtain ⟨j, hj, rfl, HQ, hfq, hmq⟩ := hrel
          have hfl : ((r.take j).filter (fun y => decide (t < y.1))).length ≤ 5000 := by
            have h1 := List.length_filter_le (fun y : Int × Int => decide (t < y.1)) (r.take j)
            have h2 := List.length_take_le j r
            omega
          by_cases hlj : j < k
          · obtain ⟨y, hy⟩ : ∃ y, r[j]? = some y := ⟨_, List.getElem?_eq_getElem (by have := HM.out; omega)⟩
            obtain ⟨b2, hb2, hrwy⟩ := HR.out.cell hy
            subst hb2
            have hrwy1 := hrwy.mod hmq (by simp)
            have y0 := hrwy1.at0 _ rfl
            have hsn := filter_gt_snoc r t hy
            clear hy hrwy
            by_cases hc2 : t < y.1
            · rw [if_pos hc2] at hsn
              have HS := Lib.hid hsn
              clear hsn
              go_wp2_with (first | (refine wpList_load_at rfl 113 (.tmp 56) rfl _ Try.underlying113 rfl 2 infoRef b2 (j * 2) [.int .i64 y.1, .int .i64 y.2] rfl hrwy1 rfl ?_) | (at_builtin; refine wpList_append_Own sty_ref rfl (.tmp 53) (.tmp 58) rfl u7 (.slice (some ⟨wr.heap.size, 0, none⟩) 1 1) rfl rfl _ [[.int .i64 y.1, .int .i64 y.2]] (Refs.mod0 ((Mod.refl [] wr).alloc _) HQ.out) (Src.one rfl (Row.of_heap (heap_alloc_at _ _))) (by simp [Value.oneCell']) (by simp [maxLen]; omega) (by simp; omega) ?_; intro v' w3 hown' hm3 hfr'))
              go_roundw
              case rel =>
                refine ⟨j + 1, by omega, by go_num, ?_, hfq.or hfr' (by rw [alloc_size]; have := hmq.size; omega), (hmq.alloc _).fresh hfq hm3⟩
                show Refs _ _ _
                rw [HS.out, ← List.append_assoc]
                exact Refs.append1 hown'
              case measure => simp [intOf]; omega
            · rw [if_neg hc2] at hsn
              have HS := Lib.hid hsn
              clear hsn
              go_wp2
              go_roundw
              case rel =>
                refine ⟨j + 1, by omega, by go_num, ?_, hfq, hmq⟩
                show Refs _ _ _
                rw [HS.out, List.append_nil]
                exact HQ.out
              case measure => simp [intOf]; omega
          · obtain rfl : j = k := by omega
            go_wp2
            go_ret
            refine ⟨u7, rfl, ?_, hmq, hfq⟩
            have h1 := HQ.out
            rw [List.take_of_length_le (by have := HM.out; omega), HX0.out] at h1
            rw [← HW.out]
            unfold withL
            rw [HF.out, if_neg (by omega), ← List.append_assoc]
            exact h1

end Go.Proofs.Ytknkifanpppglaa

/- Walks of the reference: Lose, Move. -/
namespace Go.Proofs.Ytknkifanpppglaa
open Go.RowKit

def rfoot (rb : Nat) (lv : Value) : List Nat := rb :: lv.ownBlock.toList

def RPost (rb : Nat) (lv : Value) (l' : List Ck) (v : Value) (w : World) (e : Ending) (w' : World) : Prop :=
  ∃ lv', e = .returned v ∧ RTab w' rb lv' l' ∧ Mod (rfoot rb lv) w w' ∧ (lv'.ownBlock = lv.ownBlock ∨ ∃ g, lv'.ownBlock = some g ∧ w.heap.size ≤ g)

theorem RTab.parts {w : World} {rb : Nat} {lv : Value} {l : List Ck} (h : RTab w rb lv l) : (∀ b, lv.ownBlock = some b → b ≠ rb) ∧ NoRefs w (rfoot rb lv) ∧ rb < w.heap.size ∧ (∀ b, lv.ownBlock = some b → b < w.heap.size) := by
  obtain ⟨cs, a1, a2, _, _⟩ := h
  have hl : ∀ b, lv.ownBlock = some b → ∃ cur, w.heap[b]? = some (.cells cur 45 (0, 0)) := by
    intro b hb
    rcases a2.1.shape with ⟨h1, _⟩ | ⟨b', cap', cur', h1, h2, h3, h4, h5, _⟩
    · rw [h1] at hb; simp [Value.ownBlock] at hb
    · rw [h1] at hb; simp [Value.ownBlock] at hb; subst hb; exact ⟨_, h5⟩
  refine ⟨fun b hb => ?_, fun b hb cur fr hh => ?_, lt_of_heap a1, fun b hb => ?_⟩
  · obtain ⟨cur, hc⟩ := hl b hb
    exact fun e => by (rw [e, a1] at hc; cases hc)
  · simp only [rfoot, List.mem_cons, Option.mem_toList] at hb
    rcases hb with rfl | hb
    · rw [a1] at hh; cases hh
    · obtain ⟨cur', hc⟩ := hl b hb
      rw [hc] at hh; cases hh
  · obtain ⟨cur, hc⟩ := hl b hb
    exact lt_of_heap hc

theorem RTab.isSlice {w : World} {rb : Nat} {lv : Value} {l : List Ck} (h : RTab w rb lv l) {k : Nat} {c : Ck} (hk : l[k]? = some c) :
    ∃ (b cap : Nat) (cur : List Value) (rv : Value), lv = .slice (some ⟨b, 0, none⟩) l.length cap ∧ w.heap[b]? = some (.cells cur.toArray 45 (0, 0)) ∧ k * 23 + 23 ≤ cur.length ∧ Row w b (k * 23) (c.cells rv) ∧ Refs w rv c.refs ∧ c.dig.length = 16 ∧ b ≠ rb ∧ b < w.heap.size := by
  have hp := h.parts
  obtain ⟨cs, a1, a2, rfl, hi⟩ := h
  obtain ⟨a, cap, rfl, hr⟩ := a2.open hi
  obtain ⟨b, rv, rfl, h1, h2, h3, _⟩ := hr k c hk
  obtain ⟨cur, hcur, hn, hcap, hlen, _⟩ := a2.1.block
  have hkl := (List.getElem?_eq_some_iff.1 hk).1
  refine ⟨b, cap, cur, rv, rfl, hcur, ?_, h1, h2, h3, hp.1 b rfl, hp.2.2.2 b rfl⟩
  rw [List.length_map] at hn
  rw [cksOf_len] at hkl
  omega

/-- the unit and the mark of the chunk at k were written -/
theorem rtab_place {w2 w3 w4 : World} {rb b n cap : Nat} {l : List Ck} (hT : RTab w2 rb (.slice (some ⟨b, 0, none⟩) n cap) l) {k : Nat} {c : Ck} (hk : l[k]? = some c) {cur : List Value} (hcur : w2.heap[b]? = some (.cells cur.toArray 45 (0, 0))) (u : U3) (x : Bool)
    (h3 : w3.heap[b]? = some (.cells (splice cur (k * 23 + 18) u.cells).toArray 45 (0, 0)))
    (h4 : w4.heap[b]? = some (.cells ((splice cur (k * 23 + 18) u.cells).set (k * 23 + 21) (.bool x)).toArray 45 (0, 0)))
    (hm : Mod [b] w2 w4) (hi : Inv (l.set k { c with pos := u, lost := x })) : RTab w4 rb (.slice (some ⟨b, 0, none⟩) n cap) (l.set k { c with pos := u, lost := x }) := by
  have hp := hT.parts
  obtain ⟨cs, a1, a2, rfl, _⟩ := hT
  obtain ⟨rv, hcs, _, _, hd⟩ := a2.at hk
  exact ⟨_, hm.heap a1 (by simpa using fun e => hp.1 b rfl e.symm), chunks_place (w0 := w2) a2 hcs hd hcur u x h3 h4 hm rfl, by rw [cksOf_set], hi⟩

theorem rtab_refs {w2 w3 : World} {rb b n cap : Nat} {l : List Ck} (hT : RTab w2 rb (.slice (some ⟨b, 0, none⟩) n cap) l) {k : Nat} {c : Ck} (hk : l[k]? = some c) {cur : List Value} (hcur : w2.heap[b]? = some (.cells cur.toArray 45 (0, 0)))
    {r : List (Int × Int)} {rv' : Value} (h3 : w3.heap[b]? = some (.cells (cur.set (k * 23 + 22) rv').toArray 45 (0, 0))) (hm : Mod [b] w2 w3) (hr : Refs w2 rv' r) (hi : Inv (l.set k { c with refs := r })) :
    RTab w3 rb (.slice (some ⟨b, 0, none⟩) n cap) (l.set k { c with refs := r }) := by
  have hp := hT.parts
  obtain ⟨cs, a1, a2, rfl, a6⟩ := hT
  obtain ⟨rv, hcs, _, _, hd⟩ := a2.at hk
  obtain ⟨cur', hb, hn, hcap, hlen, _⟩ := a2.1.block
  rw [hcur] at hb
  have : cur = cur' := by simpa using hb
  subst this
  have hkl := (List.getElem?_eq_some_iff.1 hcs).1
  have hl : k * 23 + 23 ≤ cur.length := by rw [List.length_map] at hn; omega
  have hke : (cs.map fun p => p.1.cells p.2)[k]? = some (c.cells rv) := by simp [hcs]
  have o3 := Own.write a2.1 hcur (k := k) (j := 22) (cs := [rv']) hke (by simp) (by rw [splice_one _ _ _ (by omega)]; exact h3)
  rw [Ck.spliceRefs hd rv rv' r] at o3
  have hnr : NoRefs w2 [b] := NoRefs.one hcur (by decide)
  have hch := a2.write hm hnr o3 (hr.mod hm hnr)
  exact ⟨_, hm.heap a1 (by simpa using fun e => hp.1 b rfl e.symm), hch, by rw [cksOf_set], hi⟩

set_option maxRecDepth 100000 in
set_option maxHeartbeats 2000000 in
theorem rlose_any (w : World) (rb : Nat) (lv : Value) (l : List Ck) (id : Int) (h : RTab w rb lv l) :
    Calls Try.prog 58 #[.pointer (some ⟨rb, 0, none⟩), .int .i64 id] w (RPost rb lv (loseL l id).1 (.int .i64 (loseL l id).2) w) := by
  have HT := Lib.hid h
  have c0 := h.open.1
  have hinv := h.open.2.2.1
  have HInv := Lib.hid hinv
  clear hinv
  cases hi : idxOf l id with
  | none =>
    have e1 : loseL l id = (l, 12) := by simp [loseL, hi]
    have hf := findI_none hi
    have HE := Lib.hid e1
    have HF := Lib.hid hf
    clear hi e1 hf h
    go_enter Try.func58, Try.ntmps58
    go_wp2_with (go_at_call 61; refine (rfind_any _ rb _ l id HT.out).mono ?_; rintro e w' ⟨rfl, rfl⟩; rw [HF.out])
    go_ret
    exact ⟨lv, by rw [HE.out]; rfl, by rw [HE.out]; exact HT.out, Mod.refl _ _, .inl rfl⟩
  | some k =>
    obtain ⟨c, hk, hid, _⟩ := idxOf_some.1 hi
    have e1 : loseL l id = (l.set k { c with pos := zeroU, lost := true }, 0) := by simp [loseL, hi, hk]
    have hf := findI_some hi
    obtain ⟨b, cap, cur, rv, rfl, hcur, hcl, hrow, hrf, hd, hbr, hbs⟩ := h.isSlice hk
    have hkl : k < l.length := (List.getElem?_eq_some_iff.1 hk).1
    have hb2 : rb ∉ [b] := by simpa using fun e => hbr e.symm
    have HE := Lib.hid e1
    have HF := Lib.hid hf
    have HK := Lib.hid hk
    have HCur := Lib.hid hcur
    clear hi hk hid e1 hf h hcur hrow hrf hd
    go_enter Try.func58, Try.ntmps58
    go_wp2_with (first | (go_at_call 61; refine (rfind_any _ rb _ l id HT.out).mono ?_; rintro e w' ⟨rfl, rfl⟩; rw [HF.out]) | (refine wpList_store_at rfl 26 (.tmp 18) (.tmp 16) rfl 3 info26 b (k * 23 + 18) 45 cur zeroU.cells rfl rfl HCur.out rfl (oneCell_unit _) (by simp [U3.cells]; omega) ?_; intro w3 hh3 hm3; have HH3 := Lib.hid hh3; have c03 := hm3.cell c0 hb2; clear hh3) | (refine wpList_store1 rfl 4 (.tmp 25) (.const (.bool true)) rfl info4 b (k * 23 + 21) 45 (splice cur (k * 23 + 18) zeroU.cells) (.bool true) rfl rfl HH3.out rfl (by rw [length_splice _ _ _ (by simp [U3.cells]; omega)]; omega) ?_; intro w4 hh4 hm4; have HH4 := Lib.hid hh4; clear hh4))
    go_ret
    have hm : Mod [b] w w4 := hm3.trans hm4 (by simp)
    refine ⟨.slice (some ⟨b, 0, none⟩) l.length cap, by rw [HE.out]; rfl, ?_, hm.mono (by simp [rfoot, Value.ownBlock]), .inl rfl⟩
    rw [HE.out]
    exact rtab_place HT.out HK.out HCur.out zeroU true HH3.out HH4.out hm (inv_lose HInv.out HK.out)


set_option maxRecDepth 100000 in
set_option maxHeartbeats 4000000 in
theorem rmove_any (w : World) (rb : Nat) (lv : Value) (l : List Ck) (id : Int) (u : U3) (h : RTab w rb lv l) :
    Calls Try.prog 57 #[.pointer (some ⟨rb, 0, none⟩), .int .i64 id, .agg #[.int .i64 u.row, .int .i64 u.group, .int .i64 u.unit]] w (RPost rb lv (moveL l id u).1 (.int .i64 (moveL l id u).2) w) := by
  have HT := Lib.hid h
  have c0 := h.open.1
  have hinv := h.open.2.2.1
  have HInv := Lib.hid hinv
  have hrbs := h.parts.2.2.1
  obtain ⟨w1, hw1⟩ : ∃ w1, w.alloc (.cells u.cells.toArray 26) = w1 := ⟨_, rfl⟩
  have hm1 : Mod [] w w1 := by rw [← hw1]; exact (Mod.refl _ _).alloc _
  have hur : Row w1 w.heap.size 0 u.cells := by rw [← hw1]; exact Row.of_heap (heap_alloc_at w _)
  have u0 := hur 0 _ rfl
  have u1 := hur 1 _ rfl
  have u2 := hur 2 _ rfl
  rw [Nat.add_zero] at u0
  have c01 := hm1.cell c0 (by simp)
  have HW := Lib.hid hw1
  clear hinv hw1 c0
  cases hi : idxOf l id with
  | none =>
    have e1 : moveL l id u = (l, 12) := by simp [moveL, hi]
    have hf := findI_none hi
    have HE := Lib.hid e1
    have HF := Lib.hid hf
    clear hi e1 hf h
    go_enter Try.func57, Try.ntmps57
    go_upto_region 1 with fail
    have e := HW.out
    unfold U3.cells at e
    rw [e]
    clear e HW
    go_wp2_with (go_at_call 61; refine (rfind_any _ rb _ l id (HT.out.mod0 hm1)).mono ?_; rintro e w' ⟨rfl, rfl⟩; rw [HF.out])
    go_ret
    exact ⟨lv, by rw [HE.out]; rfl, by rw [HE.out]; exact HT.out.mod0 hm1, hm1.nil, .inl rfl⟩
  | some k =>
    obtain ⟨c, hk, hid, _⟩ := idxOf_some.1 hi
    have hf := findI_some hi
    obtain ⟨b, cap, cur, rv, rfl, hcur, hcl, hrow, hrf, hd, hbr, hbs⟩ := h.isSlice hk
    have hkl : k < l.length := (List.getElem?_eq_some_iff.1 hk).1
    have hb2 : rb ∉ [b] := by simpa using fun e => hbr e.symm
    have HF := Lib.hid hf
    have HK := Lib.hid hk
    have HI := Lib.hid hi
    have HId := Lib.hid hid
    have HCur1 := Lib.hid (hm1.heap hcur (by simp))
    clear hi hk hid hf h hcur hrow hrf hd
    cases hok : u.ok with
    | false =>
      have e1 : moveL l id u = (l, 1) := by simp [moveL, HI.out, hok]
      have HE := Lib.hid e1
      have HOk := Lib.hid hok
      clear e1 hok
      go_enter Try.func57, Try.ntmps57
      go_upto_region 1 with fail
      have e := HW.out
      unfold U3.cells at e
      rw [e]
      clear e HW
      go_wp2_with (first | (go_at_call 61; refine (rfind_any _ rb _ l id (HT.out.mod0 hm1)).mono ?_; rintro e w' ⟨rfl, rfl⟩; rw [HF.out]) | (go_at_call 33; refine (rvalid_any u _).mono ?_; rintro e w2 ⟨rfl, hm2⟩; rw [HOk.out]))
      go_ret
      exact ⟨_, by rw [HE.out]; rfl, by rw [HE.out]; exact HT.out.mod0 (hm1.trans_nil hm2), (hm1.trans_nil hm2).nil, .inl rfl⟩
    | true =>
      have HOk := Lib.hid hok
      by_cases hbad : ∃ o, atU l u = some o ∧ o ≠ id
      · obtain ⟨o, hat, hne⟩ := hbad
        have e1 : moveL l id u = (l, 20) := by simp [moveL, HI.out, hok, hat, hne]
        have hb : (o != id) = true := by simpa using hne
        have HE := Lib.hid e1
        have HAt := Lib.hid hat
        clear e1 hok hat hne
        go_enter Try.func57, Try.ntmps57
        go_upto_region 1 with fail
        have e := HW.out
        unfold U3.cells at e
        rw [e]
        clear e HW
        go_wp2_with (first | (go_at_call 61; refine (rfind_any _ rb _ l id (HT.out.mod0 hm1)).mono ?_; rintro e w' ⟨rfl, rfl⟩; rw [HF.out]) | (go_at_call 33; refine (rvalid_any u _).mono ?_; rintro e w2 ⟨rfl, hm2⟩; rw [HOk.out]; have v0 := hm2.cell u0 (by simp); have v1 := hm2.cell u1 (by simp); have v2 := hm2.cell u2 (by simp)) | (go_at_call 19; refine (rat_any _ rb _ l u (HT.out.mod0 (hm1.trans_nil hm2))).mono ?_; rintro e w3 ⟨rfl, hm3⟩; rw [HAt.out]))
        go_ret
        exact ⟨_, by rw [HE.out]; rfl, by rw [HE.out]; exact HT.out.mod0 ((hm1.trans_nil hm2).trans_nil hm3), ((hm1.trans_nil hm2).trans_nil hm3).nil, .inl rfl⟩
      · have hat : ∀ i, atU l u = some i → i = id := fun i hi => Decidable.byContradiction fun e => hbad ⟨i, hi, e⟩
        have hat2 : ((atU l u).map (fun o => decide (o ≠ id))).getD false = false := by
          cases ha : atU l u with
          | none => rfl
          | some i => simp [hat i ha]
        have e1 : moveL l id u = (l.set k { c with pos := u, lost := false }, 0) := by simp only [moveL, HI.out, hok, HK.out, Bool.not_true, Bool.false_eq_true, if_false, hat2]
        have hinv2 := inv_move HInv.out HK.out hok (fun i hi => by rw [hat i hi, HId.out])
        have hcase : atU l u = none ∨ atU l u = some id := by
          cases ho : atU l u with
          | none => exact .inl rfl
          | some o => exact .inr (by rw [hat o ho])
        have HE := Lib.hid e1
        have HI2 := Lib.hid hinv2
        clear e1 hok hbad hat hat2 hinv2
        rcases hcase with ho | ho
        all_goals
          have HAt := Lib.hid ho
          clear ho
          go_enter Try.func57, Try.ntmps57
          go_upto_region 1 with fail
          have e := HW.out
          unfold U3.cells at e
          rw [e]
          clear e HW
          go_wp2_with (first | (go_at_call 61; refine (rfind_any _ rb _ l id (HT.out.mod0 hm1)).mono ?_; rintro e w' ⟨rfl, rfl⟩; rw [HF.out]) | (go_at_call 33; refine (rvalid_any u _).mono ?_; rintro e w2 ⟨rfl, hm2⟩; rw [HOk.out]; have v0 := hm2.cell u0 (by simp); have v1 := hm2.cell u1 (by simp); have v2 := hm2.cell u2 (by simp)) | (go_at_call 19; refine (rat_any _ rb _ l u (HT.out.mod0 (hm1.trans_nil hm2))).mono ?_; rintro e w3 ⟨rfl, hm3⟩; rw [HAt.out]; have d0 := hm3.cell v0 (by simp); have d1 := hm3.cell v1 (by simp); have d2 := hm3.cell v2 (by simp); have c03 := hm3.cell (hm2.cell c01 (by simp)) (by simp); have hcur3 := hm3.heap (hm2.heap HCur1.out (by simp)) (by simp); have HCur3 := Lib.hid hcur3; clear hcur3))
          go_still_tail 8, (by kernel_rfl)
          go_wp2_with (first | (refine wpList_store_at rfl 26 (.tmp 37) (.tmp 35) rfl 3 info26 b (k * 23 + 18) 45 cur u.cells rfl rfl HCur3.out rfl (oneCell_unit _) (by simp [U3.cells]; omega) ?_; intro w4 hh4 hm4; have HH4 := Lib.hid hh4; have c04 := hm4.cell (b := rb) (o := 0) c03 hb2; clear hh4) | (refine wpList_store1 rfl 4 (.tmp 44) (.const (.bool false)) rfl info4 b (k * 23 + 21) 45 (splice cur (k * 23 + 18) u.cells) (.bool false) rfl rfl HH4.out rfl (by rw [length_splice _ _ _ (by simp [U3.cells]; omega)]; omega) ?_; intro w5 hh5 hm5; have HH5 := Lib.hid hh5; clear hh5))
          go_ret
          have hm13 := (hm1.trans_nil hm2).trans_nil hm3
          have hm : Mod [b] w3 w5 := ((Mod.refl [b] w3).drew).trans (hm4.trans hm5 (by simp)) (by simp)
          refine ⟨.slice (some ⟨b, 0, none⟩) l.length cap, by rw [HE.out]; rfl, ?_, hm13.nil.trans hm (by simp [rfoot, Value.ownBlock]), .inl rfl⟩
          rw [HE.out]
          exact rtab_place (HT.out.mod0 hm13) HK.out HCur3.out u false HH4.out HH5.out hm HI2.out

end Go.Proofs.Ytknkifanpppglaa

/- Regions that draw their order and end in one operation that waits for all others: a condition on the world that need not hold behind that last one. No program in this text. -/
namespace Go.Proofs.Ytknkifanpppglaa

/-- whatever comes up; S holds behind each operation but the last, L -/
def AnyL (P : Program) (md : Region.Mode) (ops : Array Oper) (Q : Exit → Act → World → Prop) (S : World → Prop) (L : Nat) : Nat → Array Bool → Act → World → Prop
  | 0, listed, a, w => Region.ready md ops listed = [] ∧ Q .normal a w
  | n + 1, listed, a, w => (Region.ready md ops listed = [] → Q .normal a w) ∧
      ∀ i ∈ Region.ready md ops listed, wpOp P ops Q i (fun a' w' => (i ≠ L → S w') ∧ AnyL P md ops Q S L n (listed.setIfInBounds i true) a' w') a w

/-- L waits for operation i -/
def waitB (md : Region.Mode) (ops : Array Oper) (L i : Nat) : Bool :=
  match ops[L]? with
  | none => false
  | some o => o.after.any fun e => Region.binds md e && e.on == i

section
variable {P : Program} {ops : Array Oper} {Q : Exit → Act → World → Prop} {md : Region.Mode} {S : World → Prop} {L : Nat}

theorem waitB_spec {i : Nat} (h : waitB md ops L i = true) {oL : Oper} (hL : ops[L]? = some oL) : ∃ e ∈ oL.after, Region.binds md e = true ∧ e.on = i := by
  unfold waitB at h
  rw [hL] at h
  simp only [beq_iff_eq, Array.any_eq_true', Bool.and_eq_true] at h
  obtain ⟨e, h1, h2, h3⟩ := h
  exact ⟨e, h1, h2, h3⟩

theorem any_of_last : ∀ (n : Nat) (listed : Array Bool) (a : Act) (w : World), AnyL P md ops Q S L n listed a w → wpAny P md ops Q n listed a w
  | 0, _, _, _, h => h
  | n + 1, _, _, _, h => ⟨h.1, fun i hi => wpOp_mono (fun a' w' h' => any_of_last n _ a' w' h'.2) (h.2 i hi)⟩

theorem anyL_first {i : Nat} {oi : Oper} {v : Value} (hlast : waitB md ops L i = true) (hi : ops[i]? = some oi) (hsel : ∀ (j : Nat) (o : Oper) cs b, ops[j]? = some o → o.op ≠ .select cs b)
    (hQ : ∀ c a w, Q (.panic c) (a.put oi.dst v) w → Q (.panic c) a w) :
    ∀ (n : Nat) (listed : Array Bool) (a : Act) (w : World),
      (∀ j oj, ops[j]? = some oj → j ≠ i → listed.getD j true = false → (∀ e ∈ oj.after, Region.binds md e = true → e.on ≠ i) → oi.apart ops oj = true) →
      i ∈ Region.ready md ops listed → YieldsIf P ops S oi v a → S w →
      AnyL P md ops Q S L n (listed.setIfInBounds i true) (a.put oi.dst v) w → AnyL P md ops Q S L (n + 1) listed a w := by
  intro n
  induction n with
  | zero =>
    intro listed a w _ hr hy hS H
    refine ⟨fun h => absurd hr (by rw [h]; simp), fun j hj => ?_⟩
    rcases Decidable.em (j = i) with rfl | hji
    · exact hy.wpOp hi hS ⟨fun _ => hS, H⟩
    · have h1 := ready_mono hj hji
      rw [H.1] at h1
      exact absurd h1 (by simp)
  | succ n ih =>
    intro listed a w hfree hr hy hS H
    refine ⟨fun h => absurd hr (by rw [h]; simp), fun j hj => ?_⟩
    rcases Decidable.em (j = i) with rfl | hji
    · exact hy.wpOp hi hS ⟨fun _ => hS, H⟩
    · obtain ⟨hun, oj, hoj, hall⟩ := mem_ready.1 hj
      have hwait : ∀ e ∈ oj.after, Region.binds md e = true → e.on ≠ i := by
        intro e he hb heq
        have h1 := hall e he hb
        rw [heq] at h1
        have h0 := (mem_ready.1 hr).1
        rcases Nat.lt_or_ge i listed.size with h' | h'
        · simp [h'] at h0 h1; rw [h0] at h1; cases h1
        · simp [Array.getElem?_eq_none h'] at h1
      have hjL : j ≠ L := by
        intro e
        subst e
        obtain ⟨x, hx1, hx2, hx3⟩ := waitB_spec hlast hoj
        exact hwait x hx1 hx2 hx3
      have h1 := H.2 j (ready_mono hj hji)
      have h2 := wpOp_putIf hoj (hfree j oj hoj hji hun hwait) (fun cs b => hsel i oi cs b hi) (fun cs b => hsel j oj cs b hoj) hQ hy h1
      refine wpOp_mono (fun a' w' h3 => ?_) h2
      have hS' := h3.2.1 hjL
      refine ⟨fun _ => hS', ih (listed.setIfInBounds j true) a' w' (fun k ok hk hki hku hno => hfree k ok hk hki ?_ hno) (ready_mono hr (Ne.symm hji)) h3.1 hS' ?_⟩
      · by_cases hjk : j = k
        · subst hjk; exact hun
        · rwa [getD_set_ne true hjk] at hku
      · rw [Array.setIfInBounds_comm _ _ hji]
        exact h3.2.2

theorem anyL_take {i : Nat} {oi : Oper} {v : Value} {n : Nat} {listed : Array Bool} {a : Act} {w : World} (hlast : waitB md ops L i = true) (hi : ops[i]? = some oi)
    (hs : Region.noSelect ops = true) (hf : Region.free md ops listed i = true) (hr : (Region.ready md ops listed).contains i = true)
    (hQ : ∀ c a w, Q (.panic c) (a.put oi.dst v) w → Q (.panic c) a w) (hy : YieldsIf P ops S oi v a) (hS : S w)
    (h : AnyL P md ops Q S L n (listed.setIfInBounds i true) (a.put oi.dst v) w) : AnyL P md ops Q S L (n + 1) listed a w :=
  anyL_first hlast hi (Region.noSelect_spec hs) hQ n listed a w (Region.free_spec hi hf) (by simpa using hr) hy hS h

/-- just one may come up, and it is not the last -/
theorem anyL_one {i : Nat} {o : Oper} {n : Nat} {listed : Array Bool} {a : Act} {w : World} (hr : Region.ready md ops listed = [i]) (ho : ops[i]? = some o)
    (h : ∀ K' : Act → World → Prop, Shut (∀ a w, S w → (S w → AnyL P md ops Q S L n (listed.setIfInBounds i true) a w) → K' a w) → if Region.wanted o (yielded ops a.tmps) = true then Oper.wp P o a w K' Q else K' (a.put o.dst undef) w) :
    AnyL P md ops Q S L (n + 1) listed a w := by
  refine ⟨fun h0 => (by rw [hr] at h0; cases h0), fun j hj => ?_⟩
  rw [hr] at hj
  obtain rfl : j = i := by simpa using hj
  exact wpOp_step ho (fun K' hK => h K' (fun a w hS hW => hK a w ⟨fun _ => hS, hW hS⟩))

/-- the last one comes up -/
theorem anyL_end {o : Oper} {n : Nat} {listed : Array Bool} {a : Act} {w : World} (hr : Region.ready md ops listed = [L]) (ho : ops[L]? = some o) (hd : Region.ready md ops (listed.setIfInBounds L true) = [])
    (h : ∀ K' : Act → World → Prop, Shut (∀ a w, Q .normal a w → K' a w) → if Region.wanted o (yielded ops a.tmps) = true then Oper.wp P o a w K' Q else K' (a.put o.dst undef) w) :
    AnyL P md ops Q S L (n + 1) listed a w := by
  refine ⟨fun h0 => (by rw [hr] at h0; cases h0), fun j hj => ?_⟩
  rw [hr] at hj
  obtain rfl : j = L := by simpa using hj
  refine wpOp_step ho (fun K' hK => h K' (fun a w hq => hK a w ⟨fun e => absurd rfl e, ?_⟩))
  cases n with
  | zero => exact ⟨hd, hq⟩
  | succ n => exact ⟨fun _ => hq, by rw [hd]; simp⟩

theorem of_toList {i : Nat} {o : Oper} (h : ops.toList[i]? = some o) : ops[i]? = some o := by simpa using h

theorem anyL_take' {i : Nat} {oi : Oper} {v : Value} {n : Nat} {listed : Array Bool} {a : Act} {w : World} (hlast : waitB md ops L i = true) (hi : ops.toList[i]? = some oi)
    (hs : Region.noSelect ops = true) (hf : Region.free md ops listed i = true) (hr : (Region.ready md ops listed).contains i = true)
    (hQ : ∀ c a w, Q (.panic c) (a.put oi.dst v) w → Q (.panic c) a w) (hy : YieldsIf P ops S oi v a) (hS : S w)
    (h : AnyL P md ops Q S L n (listed.setIfInBounds i true) (a.put oi.dst v) w) : AnyL P md ops Q S L (n + 1) listed a w :=
  anyL_take hlast (of_toList hi) hs hf hr hQ hy hS h

theorem anyL_one' {i : Nat} {o : Oper} {n : Nat} {listed : Array Bool} {a : Act} {w : World} (hr : Region.ready md ops listed = [i]) (ho : ops.toList[i]? = some o)
    (h : ∀ K' : Act → World → Prop, Shut (∀ a w, S w → (S w → AnyL P md ops Q S L n (listed.setIfInBounds i true) a w) → K' a w) → if Region.wanted o (yielded ops a.tmps) = true then Oper.wp P o a w K' Q else K' (a.put o.dst undef) w) :
    AnyL P md ops Q S L (n + 1) listed a w := anyL_one hr (of_toList ho) h

theorem anyL_end' {o : Oper} {n : Nat} {listed : Array Bool} {a : Act} {w : World} (hr : Region.ready md ops listed = [L]) (ho : ops.toList[L]? = some o) (hd : Region.ready md ops (listed.setIfInBounds L true) = [])
    (h : ∀ K' : Act → World → Prop, Shut (∀ a w, Q .normal a w → K' a w) → if Region.wanted o (yielded ops a.tmps) = true then Oper.wp P o a w K' Q else K' (a.put o.dst undef) w) :
    AnyL P md ops Q S L (n + 1) listed a w := anyL_end hr (of_toList ho) hd h

theorem region_last {id : Nat} {a : Act} {w : World} (hm : P.follows .mixedOrders = true) (hS : S w.drew)
    (h : S w.drew → AnyL P .any ops Q S L ops.size (Array.replicate ops.size false) a w.drew) : (Code.region id ops true).wp P Q a w :=
  wp_region_any hm (any_of_last _ _ _ _ (h hS))
end

end Go.Proofs.Ytknkifanpppglaa
