/- The law ChunksCounts returns true for every script. -/
import Derived.Test.YtknkifanpppglaaME
namespace Go.Proofs.Ytknkifanpppglaa
open Go.RowKit

theorem infoInt : (Try.prog.info? 3).map (·.size) = some 1 := by kernel_rfl

def CountSt (w0 w : World) (tb mb wb : Nat) (l : List Ck) : Prop := ∃ lv, OT w0 w tb mb lv l [wb] ∧ w.heap[wb]? = some (.cells (wantC (countL l)).toArray 59 (0, 0))

theorem CountSt.drew {w0 w : World} {tb mb wb : Nat} {l : List Ck} (h : CountSt w0 w tb mb wb l) : CountSt w0 w.drew tb mb wb l := by
  obtain ⟨lv, h1, h2⟩ := h
  exact ⟨lv, (h1.same ((Mod.refl [] w).drew)).1, h2⟩

theorem run_iw0 (f : Int → Int) (w : World) : (Instr.index 59 (.agg (wantC f).toArray) (.int .i64 0)).run Try.prog w = .ok (.int .i64 (f 0)) w := by kernel_rfl
theorem run_iw1 (f : Int → Int) (w : World) : (Instr.index 59 (.agg (wantC f).toArray) (.int .i64 1)).run Try.prog w = .ok (.int .i64 (f 1)) w := by kernel_rfl
theorem run_iw2 (f : Int → Int) (w : World) : (Instr.index 59 (.agg (wantC f).toArray) (.int .i64 2)).run Try.prog w = .ok (.int .i64 (f 2)) w := by kernel_rfl
theorem run_iw3 (f : Int → Int) (w : World) : (Instr.index 59 (.agg (wantC f).toArray) (.int .i64 3)).run Try.prog w = .ok (.int .i64 (f 3)) w := by kernel_rfl
theorem run_iw4 (f : Int → Int) (w : World) : (Instr.index 59 (.agg (wantC f).toArray) (.int .i64 4)).run Try.prog w = .ok (.int .i64 (f 4)) w := by kernel_rfl
theorem run_iw5 (f : Int → Int) (w : World) : (Instr.index 59 (.agg (wantC f).toArray) (.int .i64 5)).run Try.prog w = .ok (.int .i64 (f 5)) w := by kernel_rfl
theorem run_iw6 (f : Int → Int) (w : World) : (Instr.index 59 (.agg (wantC f).toArray) (.int .i64 6)).run Try.prog w = .ok (.int .i64 (f 6)) w := by kernel_rfl
theorem run_iw7 (f : Int → Int) (w : World) : (Instr.index 59 (.agg (wantC f).toArray) (.int .i64 7)).run Try.prog w = .ok (.int .i64 (f 7)) w := by kernel_rfl
theorem run_iw8 (f : Int → Int) (w : World) : (Instr.index 59 (.agg (wantC f).toArray) (.int .i64 8)).run Try.prog w = .ok (.int .i64 (f 8)) w := by kernel_rfl
theorem run_iw9 (f : Int → Int) (w : World) : (Instr.index 59 (.agg (wantC f).toArray) (.int .i64 9)).run Try.prog w = .ok (.int .i64 (f 9)) w := by kernel_rfl
theorem run_iw10 (f : Int → Int) (w : World) : (Instr.index 59 (.agg (wantC f).toArray) (.int .i64 10)).run Try.prog w = .ok (.int .i64 (f 10)) w := by kernel_rfl
theorem run_iw11 (f : Int → Int) (w : World) : (Instr.index 59 (.agg (wantC f).toArray) (.int .i64 11)).run Try.prog w = .ok (.int .i64 (f 11)) w := by kernel_rfl
theorem run_iw12 (f : Int → Int) (w : World) : (Instr.index 59 (.agg (wantC f).toArray) (.int .i64 12)).run Try.prog w = .ok (.int .i64 (f 12)) w := by kernel_rfl
theorem run_iw13 (f : Int → Int) (w : World) : (Instr.index 59 (.agg (wantC f).toArray) (.int .i64 13)).run Try.prog w = .ok (.int .i64 (f 13)) w := by kernel_rfl
theorem run_iw14 (f : Int → Int) (w : World) : (Instr.index 59 (.agg (wantC f).toArray) (.int .i64 14)).run Try.prog w = .ok (.int .i64 (f 14)) w := by kernel_rfl
theorem run_iw15 (f : Int → Int) (w : World) : (Instr.index 59 (.agg (wantC f).toArray) (.int .i64 15)).run Try.prog w = .ok (.int .i64 (f 15)) w := by kernel_rfl
theorem run_index_want (f : Int → Int) (k : Nat) (h : k < 16) (w : World) : (Instr.index 59 (.agg (wantC f).toArray) (.int .i64 k)).run Try.prog w = .ok (.int .i64 (f k)) w := by
  have hc : k = 0 ∨ k = 1 ∨ k = 2 ∨ k = 3 ∨ k = 4 ∨ k = 5 ∨ k = 6 ∨ k = 7 ∨ k = 8 ∨ k = 9 ∨ k = 10 ∨ k = 11 ∨ k = 12 ∨ k = 13 ∨ k = 14 ∨ k = 15 := by omega
  rcases hc with rfl | rfl | rfl | rfl | rfl | rfl | rfl | rfl | rfl | rfl | rfl | rfl | rfl | rfl | rfl | rfl
  · exact run_iw0 f w
  · exact run_iw1 f w
  · exact run_iw2 f w
  · exact run_iw3 f w
  · exact run_iw4 f w
  · exact run_iw5 f w
  · exact run_iw6 f w
  · exact run_iw7 f w
  · exact run_iw8 f w
  · exact run_iw9 f w
  · exact run_iw10 f w
  · exact run_iw11 f w
  · exact run_iw12 f w
  · exact run_iw13 f w
  · exact run_iw14 f w
  · exact run_iw15 f w

theorem infoArr : (Try.prog.info? 59).map (·.size) = some 16 := by kernel_rfl

theorem count_gain {w0 w3 : World} {tb mb wb xb t : Nat} {lv3 : Value} {l : List Ck} {o : Opn} {v : Int} (ot : OT w0 w3 tb mb lv3 (opL l o).1 [xb, wb]) (hinv : Inv l) (ht : o.tenant = t) (ht16 : t < 16) (he : (opL l o).2.2 = 0)
    (hwb : w3.heap[wb]? = some (.cells (wantC (countL l)).toArray 59 (0, 0))) (hw0 : w0.heap.size ≤ wb) (hv : v = countL l t + gainO o) :
    CountSt w0 (w3.setCell ⟨wb, t, none⟩ (.int .i64 v)) tb mb wb (opL l o).1 := by
  refine ⟨lv3, (ot.set (by simp) hw0 hwb (by decide) _ _).less (by simp), ?_⟩
  rw [heap_setCell_same _ _ _ _ _ _ hwb, want_gain hinv o t ht ht16 he, hv]
  simp

set_option maxRecDepth 100000 in
set_option maxHeartbeats 4000000 in
theorem counts_any (w : World) (sv : Value) (s : List Opn) (h : ScriptAt w sv s) : Calls Try.prog 4 #[sv] w (BoolPost true w) := by
  obtain ⟨a, c, rfl, hr⟩ := h.slice
  have hl := h.1
  obtain ⟨n, hn⟩ : ∃ n, s.length = n := ⟨_, rfl⟩
  rw [hn] at hl ⊢
  have HN := Lib.hid hn
  have HR := Lib.hid hr
  clear hn hr h
  by_cases hbig : 120 < n
  · have hg : (120 : Int) < (n : Int) := by omega
    go_enter Try.func4, Try.ntmps4
    go_wp2_with (first | (go_at_call 29; refine (new_any _).mono ?_; rintro e w1 hnew; obtain ⟨tb, mb, rfl, o1⟩ := OT.new hnew; clear hnew) | (go_at_call 14; refine (sanity_any _).mono ?_; rintro e w2 ⟨rfl, hm2⟩))
    go_ret
    exact ⟨rfl, o1.mod.trans_nil hm2⟩
  · have hg : ¬ (120 : Int) < (n : Int) := by omega
    go_enter Try.func4, Try.ntmps4
    go_wp2_with (go_at_call 29; refine (new_any _).mono ?_; rintro e w1 hnew; obtain ⟨tb, mb, rfl, o1⟩ := OT.new hnew; clear hnew)
    have hst : CountSt w (w1.alloc (.cells (wantC (fun _ => 0)).toArray 59)) tb mb w1.heap.size [] := by
      refine ⟨nilV, o1.step ((Mod.refl _ _).alloc _) (Nat.le_refl _) (by simp), ?_⟩
      have e : wantC (countL []) = wantC (fun _ => 0) := wantC_congr (fun t ht => by simp [countL])
      rw [e]
      exact heap_alloc_at _ _
    have hw1 := o1.mod.size
    obtain ⟨wb, hwb⟩ : ∃ wb, w1.heap.size = wb := ⟨_, rfl⟩
    rw [hwb] at hst hw1
    rw [hwb]
    have HSt := Lib.hid hst
    clear hst o1 hwb
    go_loopw [20] (fun s20 wr => ∃ k : Nat, k ≤ n ∧ s20 = .int .i64 k ∧ Hid (CountSt w wr tb mb wb (opsL [] (s.take k)))) (fun s20 _ => n - (intOf s20).toNat)
    case atStart => exact ⟨0, by omega, rfl, HSt⟩
    case round =>
      obtain ⟨k, hk, rfl, HS⟩ := hrel
      clear HSt
      obtain ⟨lv, ot, hwb⟩ := HS.out
      by_cases hlt : k < n
      · obtain ⟨o, ho⟩ : ∃ o, s[k]? = some o := ⟨_, List.getElem?_eq_getElem (by have := HN.out; omega)⟩
        obtain ⟨b, off, rfl, hrow⟩ := HR.out k o ho
        have hrow1 := hrow.mod ot.mod (by simp)
        have htk := opsL_take [] s k o ho
        obtain ⟨l, hl0⟩ : ∃ l, opsL [] (s.take k) = l := ⟨_, rfl⟩
        rw [hl0] at htk ot hwb
        have hinv := ot.inv
        obtain ⟨e, he⟩ : ∃ e, (opL l o).2.2 = e := ⟨_, rfl⟩
        obtain ⟨xb, hxb⟩ : ∃ xb, wr.heap.size = xb := ⟨_, rfl⟩
        have HTk := Lib.hid htk
        have HWb := Lib.hid hwb
        have HE := Lib.hid he
        have HXb := Lib.hid hxb
        have HInv := Lib.hid hinv
        clear ho hrow htk hwb hl0 he hxb hinv
        -- BY CASES
        have hw0 : w.heap.size ≤ wb := by omega
        by_cases he0 : e = 0
        · subst he0
          by_cases hneg : o.tenant < 0
          · have HNeg := Lib.hid hneg
            go_wp2_with (first | (refine wpList_load_at rfl 37 (.tmp 22) rfl _ Try.underlying37 rfl 9 infoOp b (off + k * 9) o.cells rfl hrow1 rfl ?_) | (refine wpList_store_at rfl 37 (.tmp 6) (.tmp 23) rfl 9 infoOp wr.heap.size 0 37 zeroOp o.cells rfl rfl (heap_alloc_at _ _) rfl (oneCell_op o) (Nat.le_refl 9) ?_; intro w2 hh2 hs2; have hlt2 := lt_of_heap hh2; obtain ⟨row2, hm2⟩ := store_op hh2 hs2; clear hh2 hs2) | (refine wpList_load_at rfl 37 (.tmp 6) rfl _ Try.underlying37 rfl 9 infoOp wr.heap.size 0 o.cells rfl row2 rfl ?_) | (go_at_call 30; refine (do_any w2 tb mb lv l o (ot.same hm2).1.tab).mono ?_; rintro e' w3 hp3; obtain ⟨rfl, ot3, st3, _, _⟩ := (ot.step hm2 (Nat.le_refl _) hlt2).op hp3; have row3 := st3.row row2 (by simp); have hwb3 := st3.heap (hm2.heap HWb.out (by simp)) (by simp); have HOT := Lib.hid ot3; have HWb3 := Lib.hid hwb3; rw [HE.out]; have p2 : w3.cell? ⟨wr.heap.size, 2, none⟩ = some (.int .i64 o.tenant) := row3 2 _ rfl; clear ot3 hp3 hwb3 row3))
            go_roundw
            case rel =>
              obtain ⟨lv3, ot3⟩ := HOT.out
              refine ⟨k + 1, by omega, by go_num, Lib.hid ⟨lv3, by rw [HTk.out]; exact ot3.less (by simp), ?_⟩⟩
              rw [HTk.out, want_same HInv.out o (.inr (.inl HNeg.out))]
              exact HWb3.out
            case measure => simp [intOf]; omega
          · by_cases hpos : 15 < o.tenant
            · have HPos := Lib.hid hpos
              go_wp2_with (first | (refine wpList_load_at rfl 37 (.tmp 22) rfl _ Try.underlying37 rfl 9 infoOp b (off + k * 9) o.cells rfl hrow1 rfl ?_) | (refine wpList_store_at rfl 37 (.tmp 6) (.tmp 23) rfl 9 infoOp wr.heap.size 0 37 zeroOp o.cells rfl rfl (heap_alloc_at _ _) rfl (oneCell_op o) (Nat.le_refl 9) ?_; intro w2 hh2 hs2; have hlt2 := lt_of_heap hh2; obtain ⟨row2, hm2⟩ := store_op hh2 hs2; clear hh2 hs2) | (refine wpList_load_at rfl 37 (.tmp 6) rfl _ Try.underlying37 rfl 9 infoOp wr.heap.size 0 o.cells rfl row2 rfl ?_) | (go_at_call 30; refine (do_any w2 tb mb lv l o (ot.same hm2).1.tab).mono ?_; rintro e' w3 hp3; obtain ⟨rfl, ot3, st3, _, _⟩ := (ot.step hm2 (Nat.le_refl _) hlt2).op hp3; have row3 := st3.row row2 (by simp); have hwb3 := st3.heap (hm2.heap HWb.out (by simp)) (by simp); have HOT := Lib.hid ot3; have HWb3 := Lib.hid hwb3; rw [HE.out]; have p2 : w3.cell? ⟨wr.heap.size, 2, none⟩ = some (.int .i64 o.tenant) := row3 2 _ rfl; clear ot3 hp3 hwb3 row3))
              go_roundw
              case rel =>
                obtain ⟨lv3, ot3⟩ := HOT.out
                refine ⟨k + 1, by omega, by go_num, Lib.hid ⟨lv3, by rw [HTk.out]; exact ot3.less (by simp), ?_⟩⟩
                rw [HTk.out, want_same HInv.out o (.inr (.inr (.inl HPos.out)))]
                exact HWb3.out
              case measure => simp [intOf]; omega
            · obtain ⟨t, ht⟩ : ∃ t : Nat, o.tenant = t := ⟨o.tenant.toNat, by omega⟩
              have ht16 : t < 16 := by omega
              obtain ⟨cv, hcv⟩ : ∃ cv, countL l t = cv := ⟨_, rfl⟩
              have hcb := count_range HInv.out (t : Int)
              rw [hcv] at hcb
              have hgb := count_range (l := (opL l o).1) (opL_inv HInv.out o) (t : Int)
              rw [count_op HInv.out, HE.out, if_pos ⟨rfl, ht.symm⟩, hcv] at hgb
              have HT := Lib.hid ht
              have HCv := Lib.hid hcv
              have ht0 : (0 : Int) ≤ (t : Int) := by omega
              have ht1 : (t : Int) < 16 := by omega
              have ht2 : ¬ 15 < (t : Int) := by omega
              clear hneg hpos ht hcv
              by_cases hk1 : o.kind = 1
              · skip
                have hg2 : 0 ≤ cv + 1 ∧ cv + 1 ≤ 140737488355328 := by simpa [gainO, hk1] using hgb
                have hg3 := hg2.1
                have hg4 := hg2.2
                have HK := Lib.hid hk1
                skip
                clear hgb hg2 hk1
                go_wp2_with (first | (refine wpList_load_at rfl 37 (.tmp 22) rfl _ Try.underlying37 rfl 9 infoOp b (off + k * 9) o.cells rfl hrow1 rfl ?_) | (refine wpList_store_at rfl 37 (.tmp 6) (.tmp 23) rfl 9 infoOp wr.heap.size 0 37 zeroOp o.cells rfl rfl (heap_alloc_at _ _) rfl (oneCell_op o) (Nat.le_refl 9) ?_; intro w2 hh2 hs2; have hlt2 := lt_of_heap hh2; obtain ⟨row2, hm2⟩ := store_op hh2 hs2; clear hh2 hs2) | (refine wpList_load_at rfl 37 (.tmp 6) rfl _ Try.underlying37 rfl 9 infoOp wr.heap.size 0 o.cells rfl row2 rfl ?_) | (go_at_call 30; refine (do_any w2 tb mb lv l o (ot.same hm2).1.tab).mono ?_; rintro e' w3 hp3; obtain ⟨rfl, ot3, st3, _, _⟩ := (ot.step hm2 (Nat.le_refl _) hlt2).op hp3; have row3 := st3.row row2 (by simp); have hwb3 := st3.heap (hm2.heap HWb.out (by simp)) (by simp); have HOT := Lib.hid ot3; have HWb3 := Lib.hid hwb3; rw [HE.out]; have p0 : w3.cell? ⟨wr.heap.size, 0, none⟩ = some (.int .i64 1) := (by rw [← HK.out]; exact row3 0 _ rfl); have p2 : w3.cell? ⟨wr.heap.size, 2, none⟩ = some (.int .i64 t) := (by rw [← HT.out]; exact row3 2 _ rfl); have pw : w3.cell? ⟨wb, t, none⟩ = some (.int .i64 cv) := (by rw [cell_of_row _ _ _ _ _ _ hwb3, ← HCv.out]; simpa using wantC_get (countL l) ht16); have fz := frozen_of_row w3 wb t _ _ hwb3; clear ot3 hp3 hwb3 row3))
                go_roundw
                case rel =>
                  obtain ⟨lv3, ot3⟩ := HOT.out
                  refine ⟨k + 1, by omega, by go_num, Lib.hid ?_⟩
                  have := count_gain (v := cv + 1) ot3 HInv.out HT.out ht16 HE.out HWb3.out hw0 (by rw [HCv.out]; simp [gainO, HK.out])
                  rw [HTk.out]
                  exact this
                case measure => simp [intOf]; omega
              by_cases hk2 : o.kind = 2
              · skip
                have hg2 : 0 ≤ cv + o.n ∧ cv + o.n ≤ 140737488355328 := by simpa [gainO, hk2] using hgb
                have hg3 := hg2.1
                have hg4 := hg2.2
                have HK := Lib.hid hk2
                skip
                clear hgb hg2 hk2
                go_wp2_with (first | (refine wpList_load_at rfl 37 (.tmp 22) rfl _ Try.underlying37 rfl 9 infoOp b (off + k * 9) o.cells rfl hrow1 rfl ?_) | (refine wpList_store_at rfl 37 (.tmp 6) (.tmp 23) rfl 9 infoOp wr.heap.size 0 37 zeroOp o.cells rfl rfl (heap_alloc_at _ _) rfl (oneCell_op o) (Nat.le_refl 9) ?_; intro w2 hh2 hs2; have hlt2 := lt_of_heap hh2; obtain ⟨row2, hm2⟩ := store_op hh2 hs2; clear hh2 hs2) | (refine wpList_load_at rfl 37 (.tmp 6) rfl _ Try.underlying37 rfl 9 infoOp wr.heap.size 0 o.cells rfl row2 rfl ?_) | (go_at_call 30; refine (do_any w2 tb mb lv l o (ot.same hm2).1.tab).mono ?_; rintro e' w3 hp3; obtain ⟨rfl, ot3, st3, _, _⟩ := (ot.step hm2 (Nat.le_refl _) hlt2).op hp3; have row3 := st3.row row2 (by simp); have hwb3 := st3.heap (hm2.heap HWb.out (by simp)) (by simp); have HOT := Lib.hid ot3; have HWb3 := Lib.hid hwb3; rw [HE.out]; have p0 : w3.cell? ⟨wr.heap.size, 0, none⟩ = some (.int .i64 2) := (by rw [← HK.out]; exact row3 0 _ rfl); have p2 : w3.cell? ⟨wr.heap.size, 2, none⟩ = some (.int .i64 t) := (by rw [← HT.out]; exact row3 2 _ rfl); have p3 : w3.cell? ⟨wr.heap.size, 3, none⟩ = some (.int .i64 o.n) := row3 3 _ rfl; have pw : w3.cell? ⟨wb, t, none⟩ = some (.int .i64 cv) := (by rw [cell_of_row _ _ _ _ _ _ hwb3, ← HCv.out]; simpa using wantC_get (countL l) ht16); have fz := frozen_of_row w3 wb t _ _ hwb3; clear ot3 hp3 hwb3 row3))
                go_still_tail 8, (by kernel_rfl)
                go_wp2
                go_roundw
                case rel =>
                  obtain ⟨lv3, ot3⟩ := HOT.out
                  refine ⟨k + 1, by omega, by go_num, Lib.hid ?_⟩
                  have := count_gain (v := cv + o.n) ot3 HInv.out HT.out ht16 HE.out HWb3.out hw0 (by rw [HCv.out]; simp [gainO, HK.out])
                  rw [HTk.out]
                  exact this.drew
                case measure => simp [intOf]; omega
              by_cases hk3 : o.kind = 3
              · skip
                have hg2 : 0 ≤ cv - o.n ∧ cv - o.n ≤ 140737488355328 := by simpa [gainO, hk3, Int.sub_eq_add_neg] using hgb
                have hg3 := hg2.1
                have hg4 := hg2.2
                have HK := Lib.hid hk3
                skip
                clear hgb hg2 hk3
                go_wp2_with (first | (refine wpList_load_at rfl 37 (.tmp 22) rfl _ Try.underlying37 rfl 9 infoOp b (off + k * 9) o.cells rfl hrow1 rfl ?_) | (refine wpList_store_at rfl 37 (.tmp 6) (.tmp 23) rfl 9 infoOp wr.heap.size 0 37 zeroOp o.cells rfl rfl (heap_alloc_at _ _) rfl (oneCell_op o) (Nat.le_refl 9) ?_; intro w2 hh2 hs2; have hlt2 := lt_of_heap hh2; obtain ⟨row2, hm2⟩ := store_op hh2 hs2; clear hh2 hs2) | (refine wpList_load_at rfl 37 (.tmp 6) rfl _ Try.underlying37 rfl 9 infoOp wr.heap.size 0 o.cells rfl row2 rfl ?_) | (go_at_call 30; refine (do_any w2 tb mb lv l o (ot.same hm2).1.tab).mono ?_; rintro e' w3 hp3; obtain ⟨rfl, ot3, st3, _, _⟩ := (ot.step hm2 (Nat.le_refl _) hlt2).op hp3; have row3 := st3.row row2 (by simp); have hwb3 := st3.heap (hm2.heap HWb.out (by simp)) (by simp); have HOT := Lib.hid ot3; have HWb3 := Lib.hid hwb3; rw [HE.out]; have p0 : w3.cell? ⟨wr.heap.size, 0, none⟩ = some (.int .i64 3) := (by rw [← HK.out]; exact row3 0 _ rfl); have p2 : w3.cell? ⟨wr.heap.size, 2, none⟩ = some (.int .i64 t) := (by rw [← HT.out]; exact row3 2 _ rfl); have p3 : w3.cell? ⟨wr.heap.size, 3, none⟩ = some (.int .i64 o.n) := row3 3 _ rfl; have pw : w3.cell? ⟨wb, t, none⟩ = some (.int .i64 cv) := (by rw [cell_of_row _ _ _ _ _ _ hwb3, ← HCv.out]; simpa using wantC_get (countL l) ht16); have fz := frozen_of_row w3 wb t _ _ hwb3; clear ot3 hp3 hwb3 row3))
                go_still_tail 8, (by kernel_rfl)
                go_wp2
                go_roundw
                case rel =>
                  obtain ⟨lv3, ot3⟩ := HOT.out
                  refine ⟨k + 1, by omega, by go_num, Lib.hid ?_⟩
                  have := count_gain (v := cv - o.n) ot3 HInv.out HT.out ht16 HE.out HWb3.out hw0 (by rw [HCv.out]; simp [gainO, HK.out, Int.sub_eq_add_neg])
                  rw [HTk.out]
                  exact this.drew
                case measure => simp [intOf]; omega
              have b1 : (o.kind == 1) = false := by simpa using hk1
              have b2 : (o.kind == 2) = false := by simpa using hk2
              have b3 : (o.kind == 3) = false := by simpa using hk3
              have HK1 := Lib.hid hk1
              have HK2 := Lib.hid hk2
              have HK3 := Lib.hid hk3
              clear hgb hk1 hk2 hk3
              go_wp2_with (first | (refine wpList_load_at rfl 37 (.tmp 22) rfl _ Try.underlying37 rfl 9 infoOp b (off + k * 9) o.cells rfl hrow1 rfl ?_) | (refine wpList_store_at rfl 37 (.tmp 6) (.tmp 23) rfl 9 infoOp wr.heap.size 0 37 zeroOp o.cells rfl rfl (heap_alloc_at _ _) rfl (oneCell_op o) (Nat.le_refl 9) ?_; intro w2 hh2 hs2; have hlt2 := lt_of_heap hh2; obtain ⟨row2, hm2⟩ := store_op hh2 hs2; clear hh2 hs2) | (refine wpList_load_at rfl 37 (.tmp 6) rfl _ Try.underlying37 rfl 9 infoOp wr.heap.size 0 o.cells rfl row2 rfl ?_) | (go_at_call 30; refine (do_any w2 tb mb lv l o (ot.same hm2).1.tab).mono ?_; rintro e' w3 hp3; obtain ⟨rfl, ot3, st3, _, _⟩ := (ot.step hm2 (Nat.le_refl _) hlt2).op hp3; have row3 := st3.row row2 (by simp); have hwb3 := st3.heap (hm2.heap HWb.out (by simp)) (by simp); have HOT := Lib.hid ot3; have HWb3 := Lib.hid hwb3; rw [HE.out]; have p0 : w3.cell? ⟨wr.heap.size, 0, none⟩ = some (.int .i64 o.kind) := row3 0 _ rfl; have p2 : w3.cell? ⟨wr.heap.size, 2, none⟩ = some (.int .i64 t) := (by rw [← HT.out]; exact row3 2 _ rfl); clear ot3 hp3 hwb3 row3))
              go_roundw
              case rel =>
                obtain ⟨lv3, ot3⟩ := HOT.out
                refine ⟨k + 1, by omega, by go_num, Lib.hid ⟨lv3, by rw [HTk.out]; exact ot3.less (by simp), ?_⟩⟩
                rw [HTk.out, want_same HInv.out o (.inr (.inr (.inr ⟨HK1.out, HK2.out, HK3.out⟩)))]
                exact HWb3.out
              case measure => simp [intOf]; omega
        · have hb : (e != 0) = true := by simpa using he0
          have HE0 := Lib.hid he0
          clear he0
          go_wp2_with (first | (refine wpList_load_at rfl 37 (.tmp 22) rfl _ Try.underlying37 rfl 9 infoOp b (off + k * 9) o.cells rfl hrow1 rfl ?_) | (refine wpList_store_at rfl 37 (.tmp 6) (.tmp 23) rfl 9 infoOp wr.heap.size 0 37 zeroOp o.cells rfl rfl (heap_alloc_at _ _) rfl (oneCell_op o) (Nat.le_refl 9) ?_; intro w2 hh2 hs2; have hlt2 := lt_of_heap hh2; obtain ⟨row2, hm2⟩ := store_op hh2 hs2; clear hh2 hs2) | (refine wpList_load_at rfl 37 (.tmp 6) rfl _ Try.underlying37 rfl 9 infoOp wr.heap.size 0 o.cells rfl row2 rfl ?_) | (go_at_call 30; refine (do_any w2 tb mb lv l o (ot.same hm2).1.tab).mono ?_; rintro e' w3 hp3; obtain ⟨rfl, ot3, st3, _, _⟩ := (ot.step hm2 (Nat.le_refl _) hlt2).op hp3; have row3 := st3.row row2 (by simp); have hwb3 := st3.heap (hm2.heap HWb.out (by simp)) (by simp); have HOT := Lib.hid ot3; have HWb3 := Lib.hid hwb3; rw [HE.out]; skip; clear ot3 hp3 hwb3 row3))
          go_roundw
          case rel =>
            obtain ⟨lv3, ot3⟩ := HOT.out
            refine ⟨k + 1, by omega, by go_num, Lib.hid ⟨lv3, by rw [HTk.out]; exact ot3.less (by simp), ?_⟩⟩
            rw [HTk.out, want_same HInv.out o (.inl (by rw [HE.out]; exact HE0.out))]
            exact HWb3.out
          case measure => simp [intOf]; omega
      · obtain rfl : k = n := by omega
        have hrA := Row.of_heap hwb
        obtain ⟨l, hl0⟩ : ∃ l, opsL [] (s.take k) = l := ⟨_, rfl⟩
        rw [hl0] at ot hrA
        have hinv := ot.inv
        have HInv := Lib.hid hinv
        have ot0 : OT w wr tb mb lv l [] := ot.less (by simp)
        clear hwb hl0 hinv ot HS HR HN
        obtain ⟨A, hA⟩ : ∃ A, wantC (countL l) = A := ⟨_, rfl⟩
        rw [hA] at hrA
        have hAl : A.length = 16 := by rw [← hA]; exact wantC_len _
        have HA := Lib.hid hA
        have HAl := Lib.hid hAl
        clear hA hAl
        go_wp2_with (first | (refine wpList_load_at rfl 59 (.tmp 4) rfl _ Try.underlying59 rfl 16 infoArr wb 0 A rfl hrA HAl.out ?_) | fail)
        obtain ⟨wo, hwo⟩ : ∃ wo : World, wo = wr := ⟨_, rfl⟩
        go_loopw [74] (fun s74 wq => ∃ j : Nat, j ≤ 16 ∧ s74 = .int .i64 j ∧ Hid (OT w wq tb mb lv l [])) (fun s74 _ => 16 - (intOf s74).toNat)
        case atStart => exact ⟨0, by omega, rfl, Lib.hid ot0⟩
        case round =>
          obtain ⟨j, hj, rfl, HO⟩ := hrel
          by_cases hlj : j < 16
          · have hix : ∀ w, (Instr.index 59 (.agg A.toArray) (.int .i64 j)).run Try.prog w = .ok (.int .i64 (countL l j)) w := fun w => by rw [← HA.out]; exact run_index_want (countL l) j hlj w
            go_wp2_with (go_at_call 27; refine (count_any _ tb mb lv l j HO.out.tab).mono ?_; rintro e w2 ⟨rfl, hm2⟩)
            go_roundw
            case rel => exact ⟨j + 1, by omega, by go_num, Lib.hid (HO.out.same hm2).1⟩
            case measure => simp [intOf]; omega
          · obtain rfl : j = 16 := by omega
            have hc1 := countL_out HInv.out.each (t := 16) (by omega)
            have hc2 := countL_out HInv.out.each (t := -1) (by omega)
            have HC1 := Lib.hid hc1
            have HC2 := Lib.hid hc2
            clear hc1 hc2
            go_wp2_with fail
            refine (sanity_any _).mono ?_
            rintro e w2 ⟨rfl, hm2⟩
            have o2 := (HO.out.same hm2).1
            go_wp2_with fail
            refine (count_any _ tb mb lv l 16 o2.tab).mono ?_
            rintro e w3 ⟨rfl, hm3⟩
            rw [HC1.out]
            have o3 := (o2.same hm3).1
            go_wp2_with fail
            refine (count_any _ tb mb lv l (-1) o3.tab).mono ?_
            rintro e w4 ⟨rfl, hm4⟩
            rw [HC2.out]
            have o4 := (o3.same hm4).1
            go_wp2_with fail
            go_ret
            exact ⟨rfl, o4.mod⟩

end Go.Proofs.Ytknkifanpppglaa
