/- The law ChunksQueries returns true for every script, Id, unit, digest and tenant: the walk. -/
import Derived.Test.YtknkifanpppglaaMG
import Derived.Test.YtknkifanpppglaaW37
namespace Go.Proofs.Ytknkifanpppglaa
open Go.RowKit

set_option maxRecDepth 100000 in
set_option maxHeartbeats 8000000 in
theorem queries_any (w0 : World) (sv : Value) (s : List Opn) (h : ScriptAt w0 sv s) (id : Int) (u : U3) (d : Int) (t : Int) :
    Calls Try.prog 3 #[sv, .int .i64 id, .agg #[.int .i64 u.row, .int .i64 u.group, .int .i64 u.unit], .int .u8 d, .int .i64 t] w0 (BoolPost true w0) := by
  obtain ⟨a, c, rfl, hr⟩ := h.slice
  have hl := h.1
  have HS := Lib.hid h
  obtain ⟨n, hn⟩ : ∃ n, s.length = n := ⟨_, rfl⟩
  rw [hn] at hl HS ⊢
  have HN := Lib.hid hn
  have HR := Lib.hid hr
  clear hn hr h
  obtain ⟨w, hw0⟩ : ∃ w : World, w = w0 := ⟨_, rfl⟩
  rw [← hw0] at HS HR ⊢
  clear hw0
  go_enter Try.func3, Try.ntmps3
  go_wp2_with fail
  obtain ⟨wu, hwu⟩ : ∃ wu, wu = w.alloc (.cells #[.int .i64 u.row, .int .i64 u.group, .int .i64 u.unit] 26) := ⟨_, rfl⟩
  obtain ⟨hmu, hru, hltu⟩ := unit_alloc hwu
  rw [← hwu]
  clear hwu
  refine (build_any _ _ s (HS.out.mod0 hmu)).mono ?_
  rintro e w1 hb
  rcases hb with ⟨_, rfl, hm1⟩ | ⟨_, tb, mb, lv, rfl, o1⟩
  · go_wp2_with (go_at_call 14; refine (sanity_any _).mono ?_; rintro e w2 ⟨rfl, hm2⟩)
    go_ret
    exact ⟨rfl, (hmu.trans_nil hm1).trans_nil hm2⟩
  · have T1 := Lib.hid (TR2.start o1)
    clear o1
    go_wp2_with fail
    go_loopw [36] (fun s36 wr => ∃ k : Nat, k ≤ n ∧ s36 = .int .i64 k ∧ Hid (∃ rv, TR2 wu wr tb mb lv (opsL [] s) w1.heap.size rv (opsL [] (s.take k)))) (fun s36 _ => n - (intOf s36).toNat)
    case atStart => exact ⟨0, by omega, rfl, Lib.hid ⟨_, T1.out⟩⟩
    case round =>
      obtain ⟨k, hk, rfl, HT⟩ := hrel
      obtain ⟨rv, tr⟩ := HT.out
      have HTr := Lib.hid tr
      have hmr := hmu.trans_nil tr.mod
      clear tr HT T1
      by_cases hlt : k < n
      · obtain ⟨o, ho⟩ : ∃ o, s[k]? = some o := ⟨_, List.getElem?_eq_getElem (by have := HN.out; omega)⟩
        obtain ⟨b, off, rfl, hrow⟩ := HR.out k o ho
        have hrow1 := hrow.mod hmr (by simp)
        have htk := opsL_take [] s k o ho
        have HTk := Lib.hid htk
        clear ho hrow htk hmr
        go_wp2_with (first | (refine wpList_load_at rfl 37 (.tmp 38) rfl _ Try.underlying37 rfl 9 infoOp b (off + k * 9) o.cells rfl hrow1 rfl ?_) | (refine wpList_store_at rfl 37 (.tmp 15) (.tmp 39) rfl 9 infoOp wr.heap.size 0 37 zeroOp o.cells rfl rfl (heap_alloc_at _ _) rfl (oneCell_op o) (Nat.le_refl 9) ?_; intro w3 hh3 hs3; obtain ⟨row3, hm3⟩ := store_op hh3 hs3; clear hh3 hs3) | (refine wpList_load_at rfl 37 (.tmp 15) rfl _ Try.underlying37 rfl 9 infoOp wr.heap.size 0 o.cells rfl row3 rfl ?_))
        have T3 := Lib.hid (HTr.out.mod0 hm3)
        refine (rdo_any w3 w1.heap.size rv _ o T3.out.r).mono ?_
        rintro e w5 hp5
        obtain ⟨rfl, rv5, t5⟩ := T3.out.opR hp5
        have T5 := Lib.hid t5
        clear hp5 t5
        go_wp2_with fail
        go_roundw
        case rel => exact ⟨k + 1, by omega, by go_num, Lib.hid ⟨rv5, by rw [HTk.out]; exact T5.out⟩⟩
        case measure => simp [intOf]; omega
      · obtain rfl : n = k := by omega
        have htr := HTr.out
        rw [List.take_of_length_le (by have := HN.out; omega)] at htr
        obtain ⟨l, hl0⟩ : ∃ l, opsL [] s = l := ⟨_, rfl⟩
        rw [hl0] at htr
        have TQ0 := Lib.hid htr.one
        have hru1 := hru.mod htr.mod (by simp)
        clear htr hl0 HTr hmr hlt hru
        go_wp2_with fail
        refine (get_any _ tb mb lv l id TQ0.out.t).mono ?_
        rintro e w2 hg
        obtain ⟨rg1, hd1, rfl, hrf1, hm2⟩ := GetPost.form hg
        obtain ⟨ck, hck⟩ : ∃ ck, (getC l id).getD zeroCk = ck := ⟨_, rfl⟩
        obtain ⟨has, hhas⟩ : ∃ has, (getC l id).isSome = has := ⟨_, rfl⟩
        rw [hck] at hd1 hrf1 ⊢
        rw [hhas]
        obtain ⟨a1, n1, c1, rfl⟩ := Refs.isSlice hrf1
        have hone1 : (Value.slice a1 n1 c1).oneCell' = true := rfl
        have HD := Lib.hid hd1
        have T2 := Lib.hid (TQ0.out.mod0 hm2)
        have hru2 := hru1.mod hm2 (by simp)
        clear hg hd1 hm2 TQ0 hru1
        go_wp2_with (first | (refine wpList_store_at rfl 45 (.tmp 16) (.tmp 48) rfl 23 info45 w2.heap.size 0 45 zeroCells (ck.cells (.slice a1 n1 c1)) rfl rfl (heap_alloc_at _ _) (by rw [Ck.cells_len, HD.out]) (oneCell_ck hone1) (by simp [zeroCells, Ck.cells_len, HD.out]) ?_; intro w3 hhw3 hsw3; have hmw3 := ((Mod.refl [] w2).alloc (.cells zeroCells.toArray 45)).trans hsw3 (by simp); rw [splice_all _ _ (by simp [zeroCells, Ck.cells_len, HD.out])] at hhw3; have roww3 := Row.of_heap hhw3; have HHw3 := Lib.hid hhw3; clear hhw3; skip))
        have T3 := Lib.hid (T2.out.mod0 hmw3)
        have hrf13 := hrf1.mod0 hmw3
        have hru3 := hru2.mod hmw3 (by simp)
        clear hsw3 hmw3 HHw3 hrf1 hru2 T2
        refine (rget_any _ w1.heap.size rv l id T3.out.r).mono ?_
        rintro e w4 hg
        obtain ⟨rg2, hd2, rfl, hrf2, hm4⟩ := GetPost.form hg
        rw [hck] at hd2 hrf2 ⊢
        rw [hhas]
        obtain ⟨a2, n2, c2, rfl⟩ := Refs.isSlice hrf2
        have hone2 : (Value.slice a2 n2 c2).oneCell' = true := rfl
        have T4 := Lib.hid (T3.out.mod0 hm4)
        have hrf14 := hrf13.mod0 hm4
        have row14 := roww3.mod hm4 (by simp)
        have hru4 := hru3.mod hm4 (by simp)
        clear hg hd2 hm4 T3 hrf13 roww3 hru3 hck hhas
        go_wp2_with (first | (refine wpList_store_at rfl 45 (.tmp 18) (.tmp 54) rfl 23 info45 w4.heap.size 0 45 zeroCells (ck.cells (.slice a2 n2 c2)) rfl rfl (heap_alloc_at _ _) (by rw [Ck.cells_len, HD.out]) (oneCell_ck hone2) (by simp [zeroCells, Ck.cells_len, HD.out]) ?_; intro w5 hhw5 hsw5; have hmw5 := ((Mod.refl [] w4).alloc (.cells zeroCells.toArray 45)).trans hsw5 (by simp); rw [splice_all _ _ (by simp [zeroCells, Ck.cells_len, HD.out])] at hhw5; have roww5 := Row.of_heap hhw5; have HHw5 := Lib.hid hhw5; clear hhw5; have hru5 := hru4.mod hmw5 (by simp)) | (refine wpList_load_at rfl 26 (.tmp 7) rfl _ Try.underlying26 rfl 3 info26 w.heap.size 0 u.cells rfl hru5 rfl ?_))
        have T5 := Lib.hid (T4.out.mod0 hmw5)
        have hrf15 := hrf14.mod0 hmw5
        have hrf25 := hrf2.mod0 hmw5
        have row15 := row14.mod hmw5 (by simp)
        clear hsw5 hmw5 HHw5 hrf14 hrf2 hru4 T4 row14
        refine (at_any _ tb mb lv l u T5.out.t).mono ?_
        rintro e w6 ⟨rfl, hm6⟩
        have hru6 := hru5.mod hm6 (by simp)
        have T6 := Lib.hid (T5.out.mod0 hm6)
        obtain ⟨at1, hat1⟩ : ∃ at1, (atU l u).getD 0 = at1 := ⟨_, rfl⟩
        obtain ⟨there, hthere⟩ : ∃ there, (atU l u).isSome = there := ⟨_, rfl⟩
        rw [hat1, hthere]
        go_wp2_with (first | (refine wpList_load_at rfl 26 (.tmp 7) rfl _ Try.underlying26 rfl 3 info26 w.heap.size 0 u.cells rfl hru6 rfl ?_))
        refine (rat_any _ w1.heap.size rv l u T6.out.r).mono ?_
        rintro e ws ⟨rfl, hm7⟩
        rw [hat1, hthere]
        clear hat1 hthere
        have HRF1 := Lib.hid ((hrf15.mod0 hm6).mod0 hm7)
        have HRF2 := Lib.hid ((hrf25.mod0 hm6).mod0 hm7)
        have row1 := (row15.mod hm6 (by simp)).mod hm7 (by simp)
        have row2 := (roww5.mod hm6 (by simp)).mod hm7 (by simp)
        have uc0 := (hru6.mod hm7 (by simp)).at0 _ rfl
        have uc1 := (hru6.mod hm7 (by simp)).at 1 _ rfl
        have TQ := Lib.hid (T6.out.mod0 hm7)
        obtain ⟨b1, hb1⟩ : ∃ b1, w2.heap.size = b1 := ⟨_, rfl⟩
        obtain ⟨b2, hb2⟩ : ∃ b2, w4.heap.size = b2 := ⟨_, rfl⟩
        rw [hb1] at row1 ⊢
        rw [hb2] at row2 ⊢
        clear hb1 hb2 hm6 hm7 T5 T6 hrf15 hrf25 row15 roww5 hru5 hru6
        go_wp2_with fail
        refine region_last (L := 52) (S := fun w' => Mod [] ws w') (by kernel_rfl) ((Mod.refl [] ws).drew) (fun hHeld => ?_)
        have hS20 : Mod [] ws ws.drew := (Mod.refl [] ws).drew
        refine anyL_one' (i := 0) (by kernel_rfl) rfl (fun K' hK => ?_)
        go_simp
        refine (sanity_any _).mono ?_
        rintro e w21 ⟨rfl, hm21⟩
        have hS21 : Mod [] ws w21 := hS20.trans_nil hm21
        go_wp2_with fail
        refine hK.out _ _ (hS21) (fun _ => ?_)
        clear hK K'
        (try simp only [Act.put, List.setIfInBounds_toArray, List.set_cons_zero, List.set_cons_succ])
        refine anyL_take' (i := 1) (v := (.bool true)) (by kernel_rfl) rfl (by kernel_rfl) (by kernel_rfl) (by kernel_rfl) (fun _ _ _ h => h) (Or.inl ⟨by rfl, ?_⟩) (by assumption) ?_
        · (intro wz hSz; obtain hSz := hSz; have z0 := hSz.cell uc0 (by simp); have z1 := hSz.cell uc1 (by simp); clear hSz; go_simp)
        (try simp only [Act.put, List.setIfInBounds_toArray, List.set_cons_zero, List.set_cons_succ])
        refine anyL_take' (i := 2) (v := .agg (ck.cells (.slice a1 n1 c1)).toArray) (by kernel_rfl) rfl (by kernel_rfl) (by kernel_rfl) (by kernel_rfl) (fun _ _ _ h => h) (yieldsIf_load_mid (by rfl) 45 (.tmp 16) rfl b1 0 rfl (ck.cells (.slice a1 n1 c1)) _ (fun _ h => row1.mod h (by simp)) Try.underlying45 rfl (by rw [Ck.cells_len, HD.out]; exact info45)) (by assumption) ?_
        (try simp only [Act.put, List.setIfInBounds_toArray, List.set_cons_zero, List.set_cons_succ])
        refine anyL_take' (i := 3) (v := .agg (ck.cells (.slice a2 n2 c2)).toArray) (by kernel_rfl) rfl (by kernel_rfl) (by kernel_rfl) (by kernel_rfl) (fun _ _ _ h => h) (yieldsIf_load_mid (by rfl) 45 (.tmp 18) rfl b2 0 rfl (ck.cells (.slice a2 n2 c2)) _ (fun _ h => row2.mod h (by simp)) Try.underlying45 rfl (by rw [Ck.cells_len, HD.out]; exact info45)) (by assumption) ?_
        (try simp only [Act.put, List.setIfInBounds_toArray, List.set_cons_zero, List.set_cons_succ])
        refine anyL_one' (i := 4) (by kernel_rfl) rfl (fun K' hK => ?_)
        go_simp
        refine (sameChunk_any _ ck ck (.slice a1 n1 c1) (.slice a2 n2 c2) HD.out HD.out (HRF1.out.mod0 hS21) (HRF2.out.mod0 hS21)).mono ?_
        rintro e w22 ⟨rfl, hm22⟩
        rw [decide_eq_true rfl]
        have hS22 : Mod [] ws w22 := hS21.trans_nil hm22
        go_wp2_with fail
        refine hK.out _ _ (hS22) (fun _ => ?_)
        clear hK K'
        (try simp only [Act.put, List.setIfInBounds_toArray, List.set_cons_zero, List.set_cons_succ])
        refine anyL_take' (i := 5) (v := (.bool true)) (by kernel_rfl) rfl (by kernel_rfl) (by kernel_rfl) (by kernel_rfl) (fun _ _ _ h => h) (Or.inl ⟨by rfl, ?_⟩) (by assumption) ?_
        · (intro wz hSz; obtain hSz := hSz; have z0 := hSz.cell uc0 (by simp); have z1 := hSz.cell uc1 (by simp); clear hSz; go_simp)
        (try simp only [Act.put, List.setIfInBounds_toArray, List.set_cons_zero, List.set_cons_succ])
        refine anyL_take' (i := 6) (v := (.bool true)) (by kernel_rfl) rfl (by kernel_rfl) (by kernel_rfl) (by kernel_rfl) (fun _ _ _ h => h) (Or.inl ⟨by rfl, ?_⟩) (by assumption) ?_
        · (intro wz hSz; obtain hSz := hSz; have z0 := hSz.cell uc0 (by simp); have z1 := hSz.cell uc1 (by simp); clear hSz; go_simp)
        (try simp only [Act.put, List.setIfInBounds_toArray, List.set_cons_zero, List.set_cons_succ])
        refine anyL_take' (i := 7) (v := (.bool has)) (by kernel_rfl) rfl (by kernel_rfl) (by kernel_rfl) (by kernel_rfl) (fun _ _ _ h => h) (Or.inl ⟨by rfl, ?_⟩) (by assumption) ?_
        · (intro wz hSz; obtain hSz := hSz; have z0 := hSz.cell uc0 (by simp); have z1 := hSz.cell uc1 (by simp); clear hSz; go_simp)
        (try simp only [Act.put, List.setIfInBounds_toArray, List.set_cons_zero, List.set_cons_succ])
        refine anyL_take' (i := 8) (v := (.bool has)) (by kernel_rfl) rfl (by kernel_rfl) (by kernel_rfl) (by kernel_rfl) (fun _ _ _ h => h) (Or.inl ⟨by rfl, ?_⟩) (by assumption) ?_
        · (intro wz hSz; obtain hSz := hSz; have z0 := hSz.cell uc0 (by simp); have z1 := hSz.cell uc1 (by simp); clear hSz; go_simp)
        (try simp only [Act.put, List.setIfInBounds_toArray, List.set_cons_zero, List.set_cons_succ])
        refine anyL_take' (i := 9) (v := (.bool true)) (by kernel_rfl) rfl (by kernel_rfl) (by kernel_rfl) (by kernel_rfl) (fun _ _ _ h => h) (Or.inl ⟨by rfl, ?_⟩) (by assumption) ?_
        · (intro wz hSz; obtain hSz := hSz; have z0 := hSz.cell uc0 (by simp); have z1 := hSz.cell uc1 (by simp); clear hSz; go_simp)
        (try simp only [Act.put, List.setIfInBounds_toArray, List.set_cons_zero, List.set_cons_succ])
        refine anyL_take' (i := 10) (v := (.bool true)) (by kernel_rfl) rfl (by kernel_rfl) (by kernel_rfl) (by kernel_rfl) (fun _ _ _ h => h) (Or.inl ⟨by rfl, ?_⟩) (by assumption) ?_
        · (intro wz hSz; obtain hSz := hSz; have z0 := hSz.cell uc0 (by simp); have z1 := hSz.cell uc1 (by simp); clear hSz; go_simp)
        (try simp only [Act.put, List.setIfInBounds_toArray, List.set_cons_zero, List.set_cons_succ])
        refine anyL_take' (i := 11) (v := (.bool true)) (by kernel_rfl) rfl (by kernel_rfl) (by kernel_rfl) (by kernel_rfl) (fun _ _ _ h => h) (Or.inl ⟨by rfl, ?_⟩) (by assumption) ?_
        · (intro wz hSz; obtain hSz := hSz; have z0 := hSz.cell uc0 (by simp); have z1 := hSz.cell uc1 (by simp); clear hSz; go_simp)
        (try simp only [Act.put, List.setIfInBounds_toArray, List.set_cons_zero, List.set_cons_succ])
        refine anyL_take' (i := 12) (v := (.int .i64 at1)) (by kernel_rfl) rfl (by kernel_rfl) (by kernel_rfl) (by kernel_rfl) (fun _ _ _ h => h) (Or.inl ⟨by rfl, ?_⟩) (by assumption) ?_
        · (intro wz hSz; obtain hSz := hSz; have z0 := hSz.cell uc0 (by simp); have z1 := hSz.cell uc1 (by simp); clear hSz; go_simp)
        (try simp only [Act.put, List.setIfInBounds_toArray, List.set_cons_zero, List.set_cons_succ])
        refine anyL_take' (i := 13) (v := (.int .i64 at1)) (by kernel_rfl) rfl (by kernel_rfl) (by kernel_rfl) (by kernel_rfl) (fun _ _ _ h => h) (Or.inl ⟨by rfl, ?_⟩) (by assumption) ?_
        · (intro wz hSz; obtain hSz := hSz; have z0 := hSz.cell uc0 (by simp); have z1 := hSz.cell uc1 (by simp); clear hSz; go_simp)
        (try simp only [Act.put, List.setIfInBounds_toArray, List.set_cons_zero, List.set_cons_succ])
        refine anyL_take' (i := 14) (v := (.bool true)) (by kernel_rfl) rfl (by kernel_rfl) (by kernel_rfl) (by kernel_rfl) (fun _ _ _ h => h) (Or.inl ⟨by rfl, ?_⟩) (by assumption) ?_
        · (intro wz hSz; obtain hSz := hSz; have z0 := hSz.cell uc0 (by simp); have z1 := hSz.cell uc1 (by simp); clear hSz; go_simp)
        (try simp only [Act.put, List.setIfInBounds_toArray, List.set_cons_zero, List.set_cons_succ])
        refine anyL_take' (i := 15) (v := (.bool true)) (by kernel_rfl) rfl (by kernel_rfl) (by kernel_rfl) (by kernel_rfl) (fun _ _ _ h => h) (Or.inl ⟨by rfl, ?_⟩) (by assumption) ?_
        · (intro wz hSz; obtain hSz := hSz; have z0 := hSz.cell uc0 (by simp); have z1 := hSz.cell uc1 (by simp); clear hSz; go_simp)
        (try simp only [Act.put, List.setIfInBounds_toArray, List.set_cons_zero, List.set_cons_succ])
        refine anyL_take' (i := 16) (v := (.bool true)) (by kernel_rfl) rfl (by kernel_rfl) (by kernel_rfl) (by kernel_rfl) (fun _ _ _ h => h) (Or.inl ⟨by rfl, ?_⟩) (by assumption) ?_
        · (intro wz hSz; obtain hSz := hSz; have z0 := hSz.cell uc0 (by simp); have z1 := hSz.cell uc1 (by simp); clear hSz; go_simp)
        (try simp only [Act.put, List.setIfInBounds_toArray, List.set_cons_zero, List.set_cons_succ])
        refine anyL_take' (i := 17) (v := (.bool there)) (by kernel_rfl) rfl (by kernel_rfl) (by kernel_rfl) (by kernel_rfl) (fun _ _ _ h => h) (Or.inl ⟨by rfl, ?_⟩) (by assumption) ?_
        · (intro wz hSz; obtain hSz := hSz; have z0 := hSz.cell uc0 (by simp); have z1 := hSz.cell uc1 (by simp); clear hSz; go_simp)
        (try simp only [Act.put, List.setIfInBounds_toArray, List.set_cons_zero, List.set_cons_succ])
        refine anyL_take' (i := 18) (v := (.bool there)) (by kernel_rfl) rfl (by kernel_rfl) (by kernel_rfl) (by kernel_rfl) (fun _ _ _ h => h) (Or.inl ⟨by rfl, ?_⟩) (by assumption) ?_
        · (intro wz hSz; obtain hSz := hSz; have z0 := hSz.cell uc0 (by simp); have z1 := hSz.cell uc1 (by simp); clear hSz; go_simp)
        (try simp only [Act.put, List.setIfInBounds_toArray, List.set_cons_zero, List.set_cons_succ])
        refine anyL_take' (i := 19) (v := (.bool true)) (by kernel_rfl) rfl (by kernel_rfl) (by kernel_rfl) (by kernel_rfl) (fun _ _ _ h => h) (Or.inl ⟨by rfl, ?_⟩) (by assumption) ?_
        · (intro wz hSz; obtain hSz := hSz; have z0 := hSz.cell uc0 (by simp); have z1 := hSz.cell uc1 (by simp); clear hSz; go_simp)
        (try simp only [Act.put, List.setIfInBounds_toArray, List.set_cons_zero, List.set_cons_succ])
        refine anyL_take' (i := 20) (v := (.bool true)) (by kernel_rfl) rfl (by kernel_rfl) (by kernel_rfl) (by kernel_rfl) (fun _ _ _ h => h) (Or.inl ⟨by rfl, ?_⟩) (by assumption) ?_
        · (intro wz hSz; obtain hSz := hSz; have z0 := hSz.cell uc0 (by simp); have z1 := hSz.cell uc1 (by simp); clear hSz; go_simp)
        (try simp only [Act.put, List.setIfInBounds_toArray, List.set_cons_zero, List.set_cons_succ])
        refine anyL_take' (i := 21) (v := (.bool true)) (by kernel_rfl) rfl (by kernel_rfl) (by kernel_rfl) (by kernel_rfl) (fun _ _ _ h => h) (Or.inl ⟨by rfl, ?_⟩) (by assumption) ?_
        · (intro wz hSz; obtain hSz := hSz; have z0 := hSz.cell uc0 (by simp); have z1 := hSz.cell uc1 (by simp); clear hSz; go_simp)
        (try simp only [Act.put, List.setIfInBounds_toArray, List.set_cons_zero, List.set_cons_succ])
        refine anyL_take' (i := 22) (v := (.pointer (some ⟨tb, 0, none⟩))) (by kernel_rfl) rfl (by kernel_rfl) (by kernel_rfl) (by kernel_rfl) (fun _ _ _ h => h) (Or.inl ⟨by rfl, ?_⟩) (by assumption) ?_
        · (intro wz hSz; obtain hSz := hSz; have z0 := hSz.cell uc0 (by simp); have z1 := hSz.cell uc1 (by simp); clear hSz; go_simp)
        (try simp only [Act.put, List.setIfInBounds_toArray, List.set_cons_zero, List.set_cons_succ])
        refine anyL_take' (i := 23) (v := (.pointer (some ⟨w.heap.size, 0, none⟩))) (by kernel_rfl) rfl (by kernel_rfl) (by kernel_rfl) (by kernel_rfl) (fun _ _ _ h => h) (Or.inl ⟨by rfl, ?_⟩) (by assumption) ?_
        · (intro wz hSz; obtain hSz := hSz; have z0 := hSz.cell uc0 (by simp); have z1 := hSz.cell uc1 (by simp); clear hSz; go_simp)
        (try simp only [Act.put, List.setIfInBounds_toArray, List.set_cons_zero, List.set_cons_succ])
        refine anyL_take' (i := 24) (v := (.agg #[.int .i64 u.row, .int .i64 u.group])) (by kernel_rfl) rfl (by kernel_rfl) (by kernel_rfl) (by kernel_rfl) (fun _ _ _ h => h) (Or.inl ⟨by rfl, ?_⟩) (by assumption) ?_
        · (intro wz hSz; obtain hSz := hSz; have z0 := hSz.cell uc0 (by simp); have z1 := hSz.cell uc1 (by simp); clear hSz; go_simp)
        (try simp only [Act.put, List.setIfInBounds_toArray, List.set_cons_zero, List.set_cons_succ])
        refine anyL_take' (i := 26) (v := (.pointer (some ⟨w1.heap.size, 0, none⟩))) (by kernel_rfl) rfl (by kernel_rfl) (by kernel_rfl) (by kernel_rfl) (fun _ _ _ h => h) (Or.inl ⟨by rfl, ?_⟩) (by assumption) ?_
        · (intro wz hSz; obtain hSz := hSz; have z0 := hSz.cell uc0 (by simp); have z1 := hSz.cell uc1 (by simp); clear hSz; go_simp)
        (try simp only [Act.put, List.setIfInBounds_toArray, List.set_cons_zero, List.set_cons_succ])
        refine anyL_take' (i := 27) (v := (.pointer (some ⟨w.heap.size, 0, none⟩))) (by kernel_rfl) rfl (by kernel_rfl) (by kernel_rfl) (by kernel_rfl) (fun _ _ _ h => h) (Or.inl ⟨by rfl, ?_⟩) (by assumption) ?_
        · (intro wz hSz; obtain hSz := hSz; have z0 := hSz.cell uc0 (by simp); have z1 := hSz.cell uc1 (by simp); clear hSz; go_simp)
        (try simp only [Act.put, List.setIfInBounds_toArray, List.set_cons_zero, List.set_cons_succ])
        refine anyL_take' (i := 28) (v := (.agg #[.int .i64 u.row, .int .i64 u.group])) (by kernel_rfl) rfl (by kernel_rfl) (by kernel_rfl) (by kernel_rfl) (fun _ _ _ h => h) (Or.inl ⟨by rfl, ?_⟩) (by assumption) ?_
        · (intro wz hSz; obtain hSz := hSz; have z0 := hSz.cell uc0 (by simp); have z1 := hSz.cell uc1 (by simp); clear hSz; go_simp)
        (try simp only [Act.put, List.setIfInBounds_toArray, List.set_cons_zero, List.set_cons_succ])
        refine anyL_one' (i := 25) (by kernel_rfl) rfl (fun K' hK => ?_)
        go_simp
        refine (live_any _ tb mb lv l u.row u.group (TQ.out.t.mod0 hS22)).mono ?_
        rintro e w23 ⟨v25, rfl, hv25, hm23, _⟩
        obtain ⟨sa23, sn23, sc23, rfl⟩ := hv25.slice
        have hS23 : Mod [] ws w23 := hS22.trans_nil hm23
        go_wp2_with fail
        refine hK.out _ _ (hS23) (fun _ => ?_)
        clear hK K'
        (try simp only [Act.put, List.setIfInBounds_toArray, List.set_cons_zero, List.set_cons_succ])
        refine anyL_one' (i := 29) (by kernel_rfl) rfl (fun K' hK => ?_)
        go_simp
        refine (rlive_any _ w1.heap.size rv l u.row u.group (TQ.out.r.mod0 hS23)).mono ?_
        rintro e w24 ⟨v29, rfl, hv29, hm24, _⟩
        obtain ⟨sa24, sn24, sc24, rfl⟩ := hv29.slice
        have hS24 : Mod [] ws w24 := hS23.trans_nil hm24
        go_wp2_with fail
        refine hK.out _ _ (hS24) (fun _ => ?_)
        clear hK K'
        (try simp only [Act.put, List.setIfInBounds_toArray, List.set_cons_zero, List.set_cons_succ])
        refine anyL_one' (i := 30) (by kernel_rfl) rfl (fun K' hK => ?_)
        go_simp
        refine (same_any _ _ _ (liveL l u.row u.group) (liveL l u.row u.group) (hv25.mod0 hm24) hv29).mono ?_
        rintro e w25 ⟨rfl, hm25⟩
        rw [decide_eq_true rfl]
        have hS25 : Mod [] ws w25 := hS24.trans_nil hm25
        go_wp2_with fail
        refine hK.out _ _ (hS25) (fun _ => ?_)
        clear hK K'
        (try simp only [Act.put, List.setIfInBounds_toArray, List.set_cons_zero, List.set_cons_succ])
        refine anyL_take' (i := 31) (v := (.bool true)) (by kernel_rfl) rfl (by kernel_rfl) (by kernel_rfl) (by kernel_rfl) (fun _ _ _ h => h) (Or.inl ⟨by rfl, ?_⟩) (by assumption) ?_
        · (intro wz hSz; obtain hSz := hSz; have z0 := hSz.cell uc0 (by simp); have z1 := hSz.cell uc1 (by simp); clear hSz; go_simp)
        (try simp only [Act.put, List.setIfInBounds_toArray, List.set_cons_zero, List.set_cons_succ])
        refine anyL_take' (i := 32) (v := (.bool true)) (by kernel_rfl) rfl (by kernel_rfl) (by kernel_rfl) (by kernel_rfl) (fun _ _ _ h => h) (Or.inl ⟨by rfl, ?_⟩) (by assumption) ?_
        · (intro wz hSz; obtain hSz := hSz; have z0 := hSz.cell uc0 (by simp); have z1 := hSz.cell uc1 (by simp); clear hSz; go_simp)
        (try simp only [Act.put, List.setIfInBounds_toArray, List.set_cons_zero, List.set_cons_succ])
        refine anyL_take' (i := 33) (v := (.pointer (some ⟨tb, 0, none⟩))) (by kernel_rfl) rfl (by kernel_rfl) (by kernel_rfl) (by kernel_rfl) (fun _ _ _ h => h) (Or.inl ⟨by rfl, ?_⟩) (by assumption) ?_
        · (intro wz hSz; obtain hSz := hSz; have z0 := hSz.cell uc0 (by simp); have z1 := hSz.cell uc1 (by simp); clear hSz; go_simp)
        (try simp only [Act.put, List.setIfInBounds_toArray, List.set_cons_zero, List.set_cons_succ])
        refine anyL_take' (i := 34) (v := (.int .u8 d)) (by kernel_rfl) rfl (by kernel_rfl) (by kernel_rfl) (by kernel_rfl) (fun _ _ _ h => h) (Or.inl ⟨by rfl, ?_⟩) (by assumption) ?_
        · (intro wz hSz; obtain hSz := hSz; have z0 := hSz.cell uc0 (by simp); have z1 := hSz.cell uc1 (by simp); clear hSz; go_simp)
        (try simp only [Act.put, List.setIfInBounds_toArray, List.set_cons_zero, List.set_cons_succ])
        refine anyL_take' (i := 37) (v := (.pointer (some ⟨w1.heap.size, 0, none⟩))) (by kernel_rfl) rfl (by kernel_rfl) (by kernel_rfl) (by kernel_rfl) (fun _ _ _ h => h) (Or.inl ⟨by rfl, ?_⟩) (by assumption) ?_
        · (intro wz hSz; obtain hSz := hSz; have z0 := hSz.cell uc0 (by simp); have z1 := hSz.cell uc1 (by simp); clear hSz; go_simp)
        (try simp only [Act.put, List.setIfInBounds_toArray, List.set_cons_zero, List.set_cons_succ])
        refine anyL_take' (i := 38) (v := (.int .u8 d)) (by kernel_rfl) rfl (by kernel_rfl) (by kernel_rfl) (by kernel_rfl) (fun _ _ _ h => h) (Or.inl ⟨by rfl, ?_⟩) (by assumption) ?_
        · (intro wz hSz; obtain hSz := hSz; have z0 := hSz.cell uc0 (by simp); have z1 := hSz.cell uc1 (by simp); clear hSz; go_simp)
        (try simp only [Act.put, List.setIfInBounds_toArray, List.set_cons_zero, List.set_cons_succ])
        refine anyL_one' (i := 35) (by kernel_rfl) rfl (fun K' hK => ?_)
        go_simp
        refine (digest_any d _).mono ?_
        rintro e w26 ⟨rfl, hm26⟩
        have hS26 : Mod [] ws w26 := hS25.trans_nil hm26
        go_wp2_with fail
        refine hK.out _ _ (hS26) (fun _ => ?_)
        clear hK K'
        (try simp only [Act.put, List.setIfInBounds_toArray, List.set_cons_zero, List.set_cons_succ])
        refine anyL_one' (i := 36) (by kernel_rfl) rfl (fun K' hK => ?_)
        go_simp
        refine (lost_any _ tb mb lv l (digOf d) (by simp [digOf]) (TQ.out.t.mod0 hS26)).mono ?_
        rintro e w27 ⟨v36, rfl, hv36, hm27, _⟩
        obtain ⟨sa27, sn27, sc27, rfl⟩ := hv36.slice
        have hS27 : Mod [] ws w27 := hS26.trans_nil hm27
        go_wp2_with fail
        refine hK.out _ _ (hS27) (fun _ => ?_)
        clear hK K'
        (try simp only [Act.put, List.setIfInBounds_toArray, List.set_cons_zero, List.set_cons_succ])
        refine anyL_one' (i := 39) (by kernel_rfl) rfl (fun K' hK => ?_)
        go_simp
        refine (digest_any d _).mono ?_
        rintro e w28 ⟨rfl, hm28⟩
        have hS28 : Mod [] ws w28 := hS27.trans_nil hm28
        go_wp2_with fail
        refine hK.out _ _ (hS28) (fun _ => ?_)
        clear hK K'
        (try simp only [Act.put, List.setIfInBounds_toArray, List.set_cons_zero, List.set_cons_succ])
        refine anyL_one' (i := 40) (by kernel_rfl) rfl (fun K' hK => ?_)
        go_simp
        refine (rlost_any _ w1.heap.size rv l (digOf d) (by simp [digOf]) (TQ.out.r.mod0 hS28)).mono ?_
        rintro e w29 ⟨v40, rfl, hv40, hm29, _⟩
        obtain ⟨sa29, sn29, sc29, rfl⟩ := hv40.slice
        have hS29 : Mod [] ws w29 := hS28.trans_nil hm29
        go_wp2_with fail
        refine hK.out _ _ (hS29) (fun _ => ?_)
        clear hK K'
        (try simp only [Act.put, List.setIfInBounds_toArray, List.set_cons_zero, List.set_cons_succ])
        refine anyL_one' (i := 41) (by kernel_rfl) rfl (fun K' hK => ?_)
        go_simp
        refine (same_any _ _ _ (lostL l (digOf d)) (lostL l (digOf d)) ((hv36.mod0 hm28).mod0 hm29) hv40).mono ?_
        rintro e w30 ⟨rfl, hm30⟩
        rw [decide_eq_true rfl]
        have hS30 : Mod [] ws w30 := hS29.trans_nil hm30
        go_wp2_with fail
        refine hK.out _ _ (hS30) (fun _ => ?_)
        clear hK K'
        (try simp only [Act.put, List.setIfInBounds_toArray, List.set_cons_zero, List.set_cons_succ])
        refine anyL_take' (i := 42) (v := (.bool true)) (by kernel_rfl) rfl (by kernel_rfl) (by kernel_rfl) (by kernel_rfl) (fun _ _ _ h => h) (Or.inl ⟨by rfl, ?_⟩) (by assumption) ?_
        · (intro wz hSz; obtain hSz := hSz; have z0 := hSz.cell uc0 (by simp); have z1 := hSz.cell uc1 (by simp); clear hSz; go_simp)
        (try simp only [Act.put, List.setIfInBounds_toArray, List.set_cons_zero, List.set_cons_succ])
        refine anyL_take' (i := 43) (v := (.bool true)) (by kernel_rfl) rfl (by kernel_rfl) (by kernel_rfl) (by kernel_rfl) (fun _ _ _ h => h) (Or.inl ⟨by rfl, ?_⟩) (by assumption) ?_
        · (intro wz hSz; obtain hSz := hSz; have z0 := hSz.cell uc0 (by simp); have z1 := hSz.cell uc1 (by simp); clear hSz; go_simp)
        (try simp only [Act.put, List.setIfInBounds_toArray, List.set_cons_zero, List.set_cons_succ])
        refine anyL_take' (i := 44) (v := (.pointer (some ⟨tb, 0, none⟩))) (by kernel_rfl) rfl (by kernel_rfl) (by kernel_rfl) (by kernel_rfl) (fun _ _ _ h => h) (Or.inl ⟨by rfl, ?_⟩) (by assumption) ?_
        · (intro wz hSz; obtain hSz := hSz; have z0 := hSz.cell uc0 (by simp); have z1 := hSz.cell uc1 (by simp); clear hSz; go_simp)
        (try simp only [Act.put, List.setIfInBounds_toArray, List.set_cons_zero, List.set_cons_succ])
        refine anyL_take' (i := 45) (v := (.int .i64 t)) (by kernel_rfl) rfl (by kernel_rfl) (by kernel_rfl) (by kernel_rfl) (fun _ _ _ h => h) (Or.inl ⟨by rfl, ?_⟩) (by assumption) ?_
        · (intro wz hSz; obtain hSz := hSz; have z0 := hSz.cell uc0 (by simp); have z1 := hSz.cell uc1 (by simp); clear hSz; go_simp)
        (try simp only [Act.put, List.setIfInBounds_toArray, List.set_cons_zero, List.set_cons_succ])
        refine anyL_take' (i := 47) (v := (.pointer (some ⟨w1.heap.size, 0, none⟩))) (by kernel_rfl) rfl (by kernel_rfl) (by kernel_rfl) (by kernel_rfl) (fun _ _ _ h => h) (Or.inl ⟨by rfl, ?_⟩) (by assumption) ?_
        · (intro wz hSz; obtain hSz := hSz; have z0 := hSz.cell uc0 (by simp); have z1 := hSz.cell uc1 (by simp); clear hSz; go_simp)
        (try simp only [Act.put, List.setIfInBounds_toArray, List.set_cons_zero, List.set_cons_succ])
        refine anyL_take' (i := 48) (v := (.int .i64 t)) (by kernel_rfl) rfl (by kernel_rfl) (by kernel_rfl) (by kernel_rfl) (fun _ _ _ h => h) (Or.inl ⟨by rfl, ?_⟩) (by assumption) ?_
        · (intro wz hSz; obtain hSz := hSz; have z0 := hSz.cell uc0 (by simp); have z1 := hSz.cell uc1 (by simp); clear hSz; go_simp)
        (try simp only [Act.put, List.setIfInBounds_toArray, List.set_cons_zero, List.set_cons_succ])
        refine anyL_one' (i := 46) (by kernel_rfl) rfl (fun K' hK => ?_)
        go_simp
        refine (count_any _ tb mb lv l t (TQ.out.t.mod0 hS30)).mono ?_
        rintro e w31 ⟨rfl, hm31⟩
        have hS31 : Mod [] ws w31 := hS30.trans_nil hm31
        go_wp2_with fail
        refine hK.out _ _ (hS31) (fun _ => ?_)
        clear hK K'
        (try simp only [Act.put, List.setIfInBounds_toArray, List.set_cons_zero, List.set_cons_succ])
        refine anyL_one' (i := 49) (by kernel_rfl) rfl (fun K' hK => ?_)
        go_simp
        refine (rcount_any _ w1.heap.size rv l t (TQ.out.r.mod0 hS31)).mono ?_
        rintro e w32 ⟨rfl, hm32⟩
        have hS32 : Mod [] ws w32 := hS31.trans_nil hm32
        go_wp2_with fail
        refine hK.out _ _ (hS32) (fun _ => ?_)
        clear hK K'
        (try simp only [Act.put, List.setIfInBounds_toArray, List.set_cons_zero, List.set_cons_succ])
        refine anyL_take' (i := 50) (v := (.bool true)) (by kernel_rfl) rfl (by kernel_rfl) (by kernel_rfl) (by kernel_rfl) (fun _ _ _ h => h) (Or.inl ⟨by rfl, ?_⟩) (by assumption) ?_
        · (intro wz hSz; obtain hSz := hSz; have z0 := hSz.cell uc0 (by simp); have z1 := hSz.cell uc1 (by simp); clear hSz; go_simp)
        (try simp only [Act.put, List.setIfInBounds_toArray, List.set_cons_zero, List.set_cons_succ])
        refine anyL_take' (i := 51) (v := (.bool true)) (by kernel_rfl) rfl (by kernel_rfl) (by kernel_rfl) (by kernel_rfl) (fun _ _ _ h => h) (Or.inl ⟨by rfl, ?_⟩) (by assumption) ?_
        · (intro wz hSz; obtain hSz := hSz; have z0 := hSz.cell uc0 (by simp); have z1 := hSz.cell uc1 (by simp); clear hSz; go_simp)
        (try simp only [Act.put, List.setIfInBounds_toArray, List.set_cons_zero, List.set_cons_succ])
        refine anyL_end' (by kernel_rfl) rfl (by kernel_rfl) (fun K' hK => ?_)
        go_simp
        refine hK.out _ _ ?_
        go_wp2_with fail
        go_ret
        exact ⟨rfl, hmu.trans_nil (TQ.out.mod.trans_nil hS32)⟩

theorem queries_row (w : World) (sv : Value) (s : List Opn) (h : ScriptAt w sv s) (_ : ∀ o ∈ s, OpnWf o) (id : Int) (_ : -9223372036854775808 ≤ id ∧ id ≤ 9223372036854775807) (u : U3) (d : Int) (_ : 0 ≤ d ∧ d < 256) (t : Int) (_ : -9223372036854775808 ≤ t ∧ t ≤ 9223372036854775807) :
    Calls Try.prog 3 #[sv, .int .i64 id, .agg #[.int .i64 u.row, .int .i64 u.group, .int .i64 u.unit], .int .u8 d, .int .i64 t] w (BoolPost true w) := queries_any w sv s h id u d t

end Go.Proofs.Ytknkifanpppglaa
