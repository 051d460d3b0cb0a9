/- The law ChunksMatchSpec returns true for every script: the walk. -/
import Derived.Test.YtknkifanpppglaaMG
namespace Go.Proofs.Ytknkifanpppglaa
open Go.RowKit

set_option maxRecDepth 100000 in
set_option maxHeartbeats 4000000 in
theorem match_any (w : World) (sv : Value) (s : List Opn) (h : ScriptAt w sv s) : Calls Try.prog 5 #[sv] w (BoolPost true w) := by
  obtain ⟨a, c, rfl, hr⟩ := h.slice
  have hl := h.1
  obtain ⟨n, hn⟩ : ∃ n, s.length = n := ⟨_, rfl⟩
  rw [hn] at hl ⊢
  have HN := Lib.hid hn
  have HR := Lib.hid hr
  clear hn hr h
  by_cases hbig : 120 < n
  · have hg : (120 : Int) < (n : Int) := by omega
    go_enter Try.func5, Try.ntmps5
    go_wp2_with (go_at_call 14; refine (sanity_any _).mono ?_; rintro e w2 ⟨rfl, hm2⟩)
    go_ret
    exact ⟨rfl, hm2⟩
  · have hg : ¬ (120 : Int) < (n : Int) := by omega
    go_enter Try.func5, Try.ntmps5
    go_wp2_with fail
    refine (new_any _).mono ?_
    rintro e w1 hnew
    obtain ⟨tb, mb, rfl, o1⟩ := OT.new hnew
    clear hnew
    have two := TR2.start o1
    have T1 := Lib.hid two.one
    clear two o1
    go_wp2_with fail
    refine (sameT_any _ tb mb w1.heap.size _ _ [] T1.out.t T1.out.r).mono ?_
    rintro e w2 ⟨rfl, hm2⟩
    have T2 := Lib.hid (T1.out.mod0 hm2)
    clear hm2 T1
    go_wp2_with fail
    go_loopw [24] (fun s24 wr => ∃ k : Nat, k ≤ n ∧ s24 = .int .i64 k ∧ Hid (∃ lv rv, TR w wr tb mb lv w1.heap.size rv (opsL [] (s.take k)))) (fun s24 _ => n - (intOf s24).toNat)
    case atStart => exact ⟨0, by omega, rfl, Lib.hid ⟨_, _, T2.out⟩⟩
    case round =>
      obtain ⟨k, hk, rfl, HS⟩ := hrel
      obtain ⟨lv, rv, tr⟩ := HS.out
      have HTr := Lib.hid tr
      have hmr := tr.mod
      clear T2 tr HS
      by_cases hlt : k < n
      · obtain ⟨o, ho⟩ : ∃ o, s[k]? = some o := ⟨_, List.getElem?_eq_getElem (by have := HN.out; omega)⟩
        obtain ⟨b, off, rfl, hrow⟩ := HR.out k o ho
        have hrow1 := hrow.mod hmr (by simp)
        have htk := opsL_take [] s k o ho
        have HTk := Lib.hid htk
        obtain ⟨l, hl0⟩ : ∃ l, opsL [] (s.take k) = l := ⟨_, rfl⟩
        rw [hl0] at HTr htk
        have HTk := Lib.hid htk
        clear ho hrow htk hl0 hmr
        go_wp2_with (first | (refine wpList_load_at rfl 37 (.tmp 26) rfl _ Try.underlying37 rfl 9 infoOp b (off + k * 9) o.cells rfl hrow1 rfl ?_) | (refine wpList_store_at rfl 37 (.tmp 6) (.tmp 27) rfl 9 infoOp wr.heap.size 0 37 zeroOp o.cells rfl rfl (heap_alloc_at _ _) rfl (oneCell_op o) (Nat.le_refl 9) ?_; intro w3 hh3 hs3; obtain ⟨row3, hm3⟩ := store_op hh3 hs3; clear hh3 hs3) | (refine wpList_load_at rfl 37 (.tmp 6) rfl _ Try.underlying37 rfl 9 infoOp wr.heap.size 0 o.cells rfl row3 rfl ?_))
        have T3 := Lib.hid (HTr.out.mod0 hm3)
        have hbl : wr.heap.size < w3.heap.size := lt_row row3
        have hbf : wr.heap.size ∉ foot tb mb lv := fun hx => by have := foot_lt HTr.out.t _ hx; omega
        refine (do_any w3 tb mb lv l o T3.out.t).mono ?_
        rintro e w4 hp4
        obtain ⟨lvx, _, _, hmo4, _⟩ := id hp4
        obtain ⟨rfl, lv4, t4⟩ := T3.out.two.opT hp4
        have row4 := row3.mod hmo4 hbf
        have T4 := Lib.hid t4
        clear hp4 t4 row3 hmo4 hbf
        go_wp2_with (refine wpList_load_at rfl 37 (.tmp 6) rfl _ Try.underlying37 rfl 9 infoOp wr.heap.size 0 o.cells rfl row4 rfl ?_)
        refine (rdo_any w4 w1.heap.size rv l o T4.out.r).mono ?_
        rintro e w5 hp5
        obtain ⟨rfl, rv5, t5⟩ := T4.out.opR hp5
        have T5 := Lib.hid t5.one
        clear hp5 t5
        obtain ⟨x, hx⟩ : ∃ x, (opL l o).2.1 = x := ⟨_, rfl⟩
        obtain ⟨y, hy⟩ : ∃ y, (opL l o).2.2 = y := ⟨_, rfl⟩
        rw [hx, hy]
        clear hx hy
        go_wp2_with (go_at_call 31; refine (sameT_any _ tb mb w1.heap.size _ _ _ T5.out.t T5.out.r).mono ?_; rintro e w6 ⟨rfl, hm6⟩)
        go_roundw
        case rel => exact ⟨k + 1, by omega, by go_num, Lib.hid ⟨lv4, rv5, by rw [HTk.out]; exact T5.out.mod0 hm6⟩⟩
        case measure => simp [intOf]; omega
      · obtain rfl : n = k := by omega
        go_wp2_with (go_at_call 14; refine (sanity_any _).mono ?_; rintro e w3 ⟨rfl, hm3⟩)
        go_ret
        exact ⟨rfl, hmr.trans_nil hm3⟩

theorem match_row (w : World) (sv : Value) (s : List Opn) (h : ScriptAt w sv s) (_ : ∀ o ∈ s, OpnWf o) : Calls Try.prog 5 #[sv] w (BoolPost true w) := match_any w sv s h

end Go.Proofs.Ytknkifanpppglaa
