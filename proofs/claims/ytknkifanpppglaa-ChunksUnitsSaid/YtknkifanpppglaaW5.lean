/- Walks: At, Live, Lost, Count. -/
import Derived.Test.YtknkifanpppglaaW4
import Derived.Test.YtknkifanpppglaaDig
namespace Go.Proofs.Ytknkifanpppglaa
open Go.RowKit

theorem Tab.map {w : World} {tb mb : Nat} {lv : Value} {l : List Ck} (h : Tab w tb mb lv l) : ∃ M, MapIs w mb M ∧ ∀ u, mget M u = atU l u := by
  obtain ⟨cs, M, a1, a2, rfl, a4, a5, a6⟩ := h
  exact ⟨M, a4, a5⟩

/-- what the map answers -/
theorem Tab.lookup {w : World} {tb mb : Nat} {lv : Value} {l : List Ck} (h : Tab w tb mb lv l) (u : U3) :
    (Instr.lookup 118 (.map (some mb)) (.agg #[.int .i64 u.row, .int .i64 u.group, .int .i64 u.unit]) true).run Try.prog w = .ok (.tuple #[.int .i64 ((atU l u).getD 0), .bool (atU l u).isSome]) w := by
  obtain ⟨M, h1, h2⟩ := h.map
  have := run_lookup_unit w mb M u h1
  rw [h2] at this
  exact this

theorem at_any (w : World) (tb mb : Nat) (lv : Value) (l : List Ck) (u : U3) (h : Tab w tb mb lv l) :
    Calls Try.prog 18 #[.pointer (some ⟨tb, 0, none⟩), .agg #[.int .i64 u.row, .int .i64 u.group, .int .i64 u.unit]] w
      fun e w' => e = .returned (.tuple #[.int .i64 ((atU l u).getD 0), .bool (atU l u).isSome]) ∧ Mod [] w w' := by
  have c1 := h.open.2.1
  have hlk : ∀ (o : Obj) (n : Nat), (Instr.lookup 118 (.map (some mb)) (.agg #[.int .i64 u.row, .int .i64 u.group, .int .i64 u.unit]) true).run Try.prog ((w.alloc o).drewN n) = .ok (.tuple #[.int .i64 ((atU l u).getD 0), .bool (atU l u).isSome]) ((w.alloc o).drewN n) :=
    fun o n => (h.mod0 (((Mod.refl _ _).alloc o).drewN n)).lookup u
  have htb := Go.block_lt_of_cell c1
  clear h
  generalize (atU l u).getD 0 = r0 at *
  generalize (atU l u).isSome = r1 at *
  go_enter Try.func18, Try.ntmps18
  go_wp2
  go_quiet (fail)
  go_wp2
  go_ret2
  exact ⟨rfl, ((Mod.refl _ _).alloc _).drewN _⟩

def liveTo (l : List Ck) (row group : Int) (k : Nat) : List Int := (List.range k).filterMap (fun (n : Nat) => atU l ⟨row, group, (n : Int)⟩)
theorem liveTo_succ (l : List Ck) (row group : Int) (k : Nat) : liveTo l row group (k + 1) = liveTo l row group k ++ (atU l ⟨row, group, (k : Int)⟩).toList := by
  unfold liveTo
  rw [List.range_succ, List.filterMap_append]
  cases h : atU l ⟨row, group, (k : Int)⟩ <;> simp [h]
theorem liveTo_len (l : List Ck) (row group : Int) (k : Nat) : (liveTo l row group k).length ≤ k := by
  have := List.length_filterMap_le (fun (n : Nat) => atU l ⟨row, group, (n : Int)⟩) (List.range k)
  simpa [liveTo] using this

set_option maxHeartbeats 1000000 in
theorem live_any (w : World) (tb mb : Nat) (lv : Value) (l : List Ck) (row group : Int) (h : Tab w tb mb lv l) :
    Calls Try.prog 22 #[.pointer (some ⟨tb, 0, none⟩), .agg #[.int .i64 row, .int .i64 group]] w (IntsPost (liveL l row group) w) := by
  have c1 := h.open.2.1
  have htb := Go.block_lt_of_cell c1
  have HT := Lib.hid h
  clear h
  go_enter Try.func22, Try.ntmps22
  go_wp2
  go_loopw [5, 9] (fun s5 s9 wr => ∃ k : Nat, k ≤ 32 ∧ s9 = .int .i64 k ∧ Hid (Ints wr s5 (liveTo l row group k)) ∧ FreshN (w.heap.size + 1) s5 ∧ Mod [] w wr ∧ wr.cell? ⟨w.heap.size, 0, none⟩ = some (.int .i64 row) ∧ wr.cell? ⟨w.heap.size, 1, none⟩ = some (.int .i64 group)) (fun _ s9 _ => 32 - (intOf s9).toNat)
  case atStart => exact ⟨0, by omega, rfl, Own.nil _ _ _, FreshN.nil _, (Mod.refl _ _).alloc _, by simp, by simp⟩
  case round =>
    obtain ⟨k, hk, rfl, HO, hfr, hm, d0, d1⟩ := hrel
    have c1' : wr.cell? ⟨tb, 1, none⟩ = some (.map (some mb)) := hm.cell c1 (by simp)
    have hlk : ∀ (n : Nat), (Instr.lookup 118 (.map (some mb)) (.agg #[.int .i64 row, .int .i64 group, .int .i64 k]) true).run Try.prog (wr.drewN n) = .ok (.tuple #[.int .i64 ((atU l ⟨row, group, k⟩).getD 0), .bool (atU l ⟨row, group, k⟩).isSome]) (wr.drewN n) :=
      fun n => (HT.out.mod0 (hm.drewN n)).lookup ⟨row, group, k⟩
    have hll := liveTo_len l row group k
    by_cases hlt : k < 32
    · cases ha : atU l ⟨row, group, k⟩ with
      | none =>
        rw [ha] at hlk
        simp only [Option.getD_none, Option.isSome_none] at hlk
        have HA := Lib.hid ha
        clear ha c1
        go_wp2
        go_quiet (fail)
        go_wp2
        go_roundw
        case rel =>
          refine ⟨k + 1, by omega, by go_num, ?_, hfr, hm.drewN _, d0, d1⟩
          have e := liveTo_succ l row group k
          rw [HA.out] at e
          show Ints _ _ _
          rw [e]
          simpa using Ints.mod0 ((Mod.refl _ wr).drewN _) HO.out
        case measure => simp [intOf]; omega
      | some id =>
        rw [ha] at hlk
        simp only [Option.getD_some, Option.isSome_some] at hlk
        have HA := Lib.hid ha
        clear ha c1
        go_wp2
        go_quiet (fail)
        go_wp2_with (first | (at_builtin; refine wpList_append_Own sty_int rfl (.tmp 24) (.tmp 26) rfl u5 (.slice (some ⟨(wr.drewN nq).heap.size, 0, none⟩) 1 1) rfl rfl _ [[Value.int .i64 id]] (Ints.mod0 (((Mod.refl [] wr).drewN _).alloc _) HO.out) (Src.one rfl (Row.of_heap (heap_alloc_at _ _))) (by simp [Value.oneCell']) (by simp [maxLen]; omega) (by simp; omega) ?_; intro v' w3 hown' hm3 hfr'; have hm03 := ((hm.drewN nq).alloc (.cells #[.int .i64 id] 3)).fresh (FreshN.mono hfr (Nat.le_succ _)) hm3; have d0' := hm3.cell (b := w.heap.size) (((Mod.refl [] wr).drewN nq |>.alloc (.cells #[.int .i64 id] 3)).cell d0 (by simp)) (hfr.notin (Nat.lt_succ_self _)); have d1' := hm3.cell (b := w.heap.size) (((Mod.refl [] wr).drewN nq |>.alloc (.cells #[.int .i64 id] 3)).cell d1 (by simp)) (hfr.notin (Nat.lt_succ_self _))))
        go_roundw
        case rel =>
          have hsz := Go.block_lt_of_cell d0
          refine ⟨k + 1, by omega, by go_num, ?_, hfr.or hfr' (by simp at hsz ⊢; omega), hm03, d0', d1'⟩
          have e := liveTo_succ l row group k
          rw [HA.out] at e
          show Ints _ _ _
          rw [e]
          simpa [Ints] using hown'
        case measure => simp [intOf]; omega
    · obtain rfl : k = 32 := by omega
      clear hlk
      go_wp2
      go_ret
      exact ⟨u5, rfl, HO.out, hm, FreshN.mono hfr (Nat.le_succ _)⟩

theorem equal_digL {a b : List Int} (A B : List Value) (hA : A = a.map (Value.int .u8)) (hB : B = b.map (Value.int .u8)) (ha : a.length = 16) (hb : b.length = 16) (w : World) :
    (binOp .eql 42 (.agg A.toArray) (.agg B.toArray)).run Try.prog w = .ok (.bool (decide (a = b))) w := by
  subst hA hB
  exact equal_dig a b ha hb w

theorem lost_snoc (l : List Ck) (d : List Int) (k : Nat) (c : Ck) (h : l[k]? = some c) : lostL (l.take (k + 1)) d = lostL (l.take k) d ++ (if c.lost && c.dig == d then [c.id] else []) := by
  unfold lostL
  rw [take_snoc' h, List.filter_append, List.map_append]
  cases hc : (c.lost && c.dig == d) <;> simp [hc]

theorem lost_len (l : List Ck) (d : List Int) (k : Nat) : (lostL (l.take k) d).length ≤ k := by
  have h1 := List.length_filter_le (fun c : Ck => c.lost && c.dig == d) (l.take k)
  have h2 := List.length_take_le k l
  simp [lostL]
  omega

set_option maxHeartbeats 2000000 in
theorem lost_any (w : World) (tb mb : Nat) (lv : Value) (l : List Ck) (d : List Int) (hd16 : d.length = 16) (h : Tab w tb mb lv l) :
    Calls Try.prog 24 #[.pointer (some ⟨tb, 0, none⟩), digV d] w (IntsPost (lostL l d) w) := by
  obtain ⟨c0, _, hl, _, hs⟩ := h.open
  have htb := Go.block_lt_of_cell c0
  clear h
  obtain ⟨D, hD⟩ : ∃ D, D = d.map (Value.int .u8) := ⟨_, rfl⟩
  have hDl : D.length = 16 := by rw [hD]; simp [hd16]
  have eD : digV d = .agg D.toArray := by rw [hD]; rfl
  rw [eD]
  have HDD := Lib.hid hD
  clear eD hD
  rcases hs with ⟨rfl, rfl⟩ | ⟨b, cap, rfl, hc, hb, hr⟩
  · clear hd16
    go_enter Try.func24, Try.ntmps24
    go_wp2
    refine wp_loop_rounds 1 ?_
    rw [rounds_succ]
    go_wp2
    go_ret
    exact ⟨_, rfl, Own.nil _ _ _, (Mod.refl _ _).alloc _, FreshN.nil _⟩
  · have HR := Lib.hid hr
    have Hd := Lib.hid hd16
    have HDl := Lib.hid hDl
    clear hr hd16 hDl
    go_enter Try.func24, Try.ntmps24
    go_wp2
    go_loopw [5, 13] (fun s5 s13 wr => ∃ k : Nat, k ≤ l.length ∧ s13 = .int .i64 k ∧ Hid (Ints wr s5 (lostL (l.take k) d)) ∧ FreshN (w.heap.size + 1) s5 ∧ Mod [] w wr ∧ Row wr w.heap.size 0 D ∧ w.heap.size < wr.heap.size) (fun _ s13 _ => l.length - (intOf s13).toNat)
    case atStart => exact ⟨0, Nat.zero_le _, rfl, Own.nil _ _ _, FreshN.nil _, (Mod.refl _ _).alloc _, Row.of_heap (heap_alloc_at w _), by simp⟩
    case round =>
      obtain ⟨k, hk, rfl, HO, hfr, hm, hrD, hsz⟩ := hrel
      by_cases hlt : k < l.length
      · obtain ⟨c, hx⟩ : ∃ c, l[k]? = some c := ⟨_, List.getElem?_eq_getElem hlt⟩
        obtain ⟨rv, hrw, hrf, hd, _⟩ := HR.out k c hx
        have hrw1 := hrw.mod hm (by simp)
        have hrf1 := hrf.one
        have hsn := lost_snoc l d k c hx
        have hln := lost_len l d k
        obtain ⟨C, hC⟩ : ∃ C, C = c.dig.map (Value.int .u8) := ⟨_, rfl⟩
        have hCl : C.length = 16 := by rw [hC]; simp [hd]
        have heq := equal_digL C D hC HDD.out hd Hd.out
        have HRF := Lib.hid hrf1
        have HD := Lib.hid hd
        have HC := Lib.hid hC
        have HCl := Lib.hid hCl
        have HEq := Lib.hid heq
        clear hx hrw hrf hrf1 hd hC hCl heq
        cases hlost : c.lost with
        | false =>
          rw [hlost] at hsn
          have HS := Lib.hid hsn
          have HL := Lib.hid hlost
          clear hsn hlost
          go_wp2_with (first | (refine wpList_load_at rfl 45 (.tmp 15) rfl _ Try.underlying45 rfl 23 info45 b (k * 23) (c.cells rv) rfl hrw1 (by rw [Ck.cells_len, HD.out]) ?_) | (refine wpList_store_at rfl 45 (.tmp 7) (.tmp 16) rfl 23 info45 wr.heap.size 0 45 zeroCells (c.cells rv) rfl rfl (heap_alloc_at _ _) (by rw [Ck.cells_len, HD.out]) (oneCell_ck HRF.out) (by simp [zeroCells, Ck.cells_len, HD.out]) ?_; intro w2 hhw2 hsw2; have hmw2 := ((Mod.refl [] wr).alloc (.cells zeroCells.toArray 45)).trans hsw2 (by simp); rw [splice_all _ _ (by simp [zeroCells, Ck.cells_len, HD.out])] at hhw2; have roww2 := Row.of_heap hhw2; have HHw2 := Lib.hid hhw2; clear hhw2; have c21 : w2.cell? ⟨wr.heap.size, 21, none⟩ = some (.bool false) := (roww2 21 _ (by rw [Ck.c21 HD.out, HL.out]))))
          go_roundw
          case rel =>
            refine ⟨k + 1, by omega, by go_num, ?_, hfr, hm.trans_nil hmw2, hrD.mod hmw2 (by simp), by have := hmw2.size; omega⟩
            show Ints _ _ _
            rw [HS.out]
            simpa using Ints.mod0 hmw2 HO.out
          case measure => simp [intOf]; omega
        | true =>
          rw [hlost] at hsn
          have HL := Lib.hid hlost
          clear hlost
          by_cases hdd : c.dig = d
          · rw [hdd] at hsn
            have HS := Lib.hid hsn
            have hq : ∀ w, (binOp .eql 42 (.agg C.toArray) (.agg D.toArray)).run Try.prog w = .ok (.bool true) w := fun w => by rw [HEq.out]; simp [hdd]
            clear hsn
            have HDD2 := Lib.hid hdd
            clear hdd
            go_wp2_with (first | (refine wpList_load_at rfl 45 (.tmp 15) rfl _ Try.underlying45 rfl 23 info45 b (k * 23) (c.cells rv) rfl hrw1 (by rw [Ck.cells_len, HD.out]) ?_) | (refine wpList_store_at rfl 45 (.tmp 7) (.tmp 16) rfl 23 info45 wr.heap.size 0 45 zeroCells (c.cells rv) rfl rfl (heap_alloc_at _ _) (by rw [Ck.cells_len, HD.out]) (oneCell_ck HRF.out) (by simp [zeroCells, Ck.cells_len, HD.out]) ?_; intro w2 hhw2 hsw2; have hmw2 := ((Mod.refl [] wr).alloc (.cells zeroCells.toArray 45)).trans hsw2 (by simp); rw [splice_all _ _ (by simp [zeroCells, Ck.cells_len, HD.out])] at hhw2; have roww2 := Row.of_heap hhw2; have HHw2 := Lib.hid hhw2; clear hhw2; have c21 : w2.cell? ⟨wr.heap.size, 21, none⟩ = some (.bool true) := (roww2 21 _ (by rw [Ck.c21 HD.out, HL.out])); have c00 : w2.cell? ⟨wr.heap.size, 0, none⟩ = some (.int .i64 c.id) := roww2 0 _ rfl; have rC : Row w2 wr.heap.size 1 C := (by rw [HC.out]; exact Ck.digRow roww2); have rD : Row w2 w.heap.size 0 D := hrD.mod hmw2 (by simp)) | (refine wpList_load_at rfl 42 (.tmp 20) rfl _ Try.underlying42 rfl 16 info42 wr.heap.size (1) (C) rfl rC HCl.out ?_) | (refine wpList_load_at rfl 42 (.tmp 3) rfl _ Try.underlying42 rfl 16 info42 w.heap.size (0) (D) rfl rD HDl.out ?_) | (at_builtin; refine wpList_append_Own sty_int rfl (.tmp 25) (.tmp 28) rfl u5 (.slice (some ⟨w2.heap.size, 0, none⟩) 1 1) rfl rfl _ [[Value.int .i64 c.id]] (Ints.mod0 (hmw2.alloc _) HO.out) (Src.one rfl (Row.of_heap (heap_alloc_at _ _))) (by simp [Value.oneCell']) (by simp [maxLen]; omega) (by simp; omega) ?_; intro v' w3 hown' hm3 hfr'))
            go_roundw
            case rel =>
              have s2 := hmw2.size
              refine ⟨k + 1, by omega, by go_num, ?_, hfr.or hfr' (by simp; omega), ((hm.trans_nil hmw2).alloc _).fresh (hfr.mono (Nat.le_succ _)) hm3, ?_, ?_⟩
              · show Ints _ _ _
                rw [HS.out]
                simpa [Ints] using hown'
              · exact (rD.mod ((Mod.refl [] w2).alloc _) (by simp)).mod hm3 (hfr.notin (Nat.lt_succ_self _))
              · have := hm3.size; simp at this; omega
            case measure => simp [intOf]; omega
          · have e : (c.dig == d) = false := by simpa using hdd
            rw [e] at hsn
            have HS := Lib.hid hsn
            have hq : ∀ w, (binOp .eql 42 (.agg C.toArray) (.agg D.toArray)).run Try.prog w = .ok (.bool false) w := fun w => by rw [HEq.out]; simp [hdd]
            clear hsn e hdd
            go_wp2_with (first | (refine wpList_load_at rfl 45 (.tmp 15) rfl _ Try.underlying45 rfl 23 info45 b (k * 23) (c.cells rv) rfl hrw1 (by rw [Ck.cells_len, HD.out]) ?_) | (refine wpList_store_at rfl 45 (.tmp 7) (.tmp 16) rfl 23 info45 wr.heap.size 0 45 zeroCells (c.cells rv) rfl rfl (heap_alloc_at _ _) (by rw [Ck.cells_len, HD.out]) (oneCell_ck HRF.out) (by simp [zeroCells, Ck.cells_len, HD.out]) ?_; intro w2 hhw2 hsw2; have hmw2 := ((Mod.refl [] wr).alloc (.cells zeroCells.toArray 45)).trans hsw2 (by simp); rw [splice_all _ _ (by simp [zeroCells, Ck.cells_len, HD.out])] at hhw2; have roww2 := Row.of_heap hhw2; have HHw2 := Lib.hid hhw2; clear hhw2; have c21 : w2.cell? ⟨wr.heap.size, 21, none⟩ = some (.bool true) := (roww2 21 _ (by rw [Ck.c21 HD.out, HL.out])); have rC : Row w2 wr.heap.size 1 C := (by rw [HC.out]; exact Ck.digRow roww2); have rD : Row w2 w.heap.size 0 D := hrD.mod hmw2 (by simp)) | (refine wpList_load_at rfl 42 (.tmp 20) rfl _ Try.underlying42 rfl 16 info42 wr.heap.size (1) (C) rfl rC HCl.out ?_) | (refine wpList_load_at rfl 42 (.tmp 3) rfl _ Try.underlying42 rfl 16 info42 w.heap.size (0) (D) rfl rD HDl.out ?_))
            go_roundw
            case rel =>
              refine ⟨k + 1, by omega, by go_num, ?_, hfr, hm.trans_nil hmw2, hrD.mod hmw2 (by simp), by have := hmw2.size; omega⟩
              show Ints _ _ _
              rw [HS.out]
              simpa using Ints.mod0 hmw2 HO.out
            case measure => simp [intOf]; omega
      · go_wp2
        go_ret
        refine ⟨u5, rfl, ?_, hm, hfr.mono (Nat.le_succ _)⟩
        have := HO.out
        rwa [List.take_of_length_le (by omega)] at this

end Go.Proofs.Ytknkifanpppglaa
