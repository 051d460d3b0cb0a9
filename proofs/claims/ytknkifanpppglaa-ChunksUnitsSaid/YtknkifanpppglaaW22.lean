/- Walks: Add. -/
import Derived.Test.YtknkifanpppglaaW21
namespace Go.Proofs.Ytknkifanpppglaa
open Go.RowKit

theorem alloc_size (w : World) (o : Obj) : (w.alloc o).heap.size = w.heap.size + 1 := by simp

theorem alloc2_at (w : World) (o o' : Obj) : ((w.alloc o).alloc o').heap[w.heap.size + 1]? = some o' := by
  have := heap_alloc_at (w.alloc o) o'
  rwa [alloc_size] at this

theorem Own.isSlice {w : World} {E sz : Nat} {v : Value} {es : List (List Value)} (h : Own w E sz v es) : ∃ a n c, v = .slice a n c := by
  rcases h.shape with ⟨rfl, _⟩ | ⟨b, cap, cur, rfl, _⟩ <;> exact ⟨_, _, _, rfl⟩

theorem search_tab (w : World) (bb tb mb : Nat) (lv : Value) (l : List Ck) (n : Nat) (hn : n = l.length) (h : Tab w tb mb lv l) (hbb : w.cell? ⟨bb, 0, none⟩ = some (.pointer (some ⟨tb, 0, none⟩))) :
    Calls Try.prog 95 #[.int .i64 n, .func (.func 96) #[] #[.pointer (some ⟨bb, 0, none⟩)]] w fun e w' => e = .returned (.int .i64 (slot l)) ∧ Mod [] w w' := by
  subst hn
  obtain ⟨c0, _, hl, hI, _⟩ := h.open
  obtain ⟨cs, M, a1, a2, rfl, a4, a5, a6⟩ := h
  rcases a2.shape with ⟨rfl, rfl⟩ | ⟨b, cap, rfl, hb, hc, hm, hrow⟩
  · exact search_nil w bb
  · have := search_any w bb tb b cap cs.length cs rfl (by rwa [cksOf_len] at hl) hrow hI hbb c0
    rwa [← cksOf_len cs] at this

theorem Tab.isSlice {w : World} {tb mb : Nat} {lv : Value} {l : List Ck} (h : Tab w tb mb lv l) : ∃ ad n cap, lv = .slice ad n cap ∧ n = l.length := by
  rcases h.open.2.2.2.2 with ⟨rfl, rfl⟩ | ⟨b, cap, rfl, _⟩
  · exact ⟨_, _, _, rfl, rfl⟩
  · exact ⟨_, _, _, rfl, rfl⟩

set_option maxRecDepth 100000 in
set_option maxHeartbeats 2000000 in
theorem add_any (w : World) (tb mb : Nat) (lv : Value) (l : List Ck) (d : List Int) (p : Int) (u : U3) (t : Int) (hd16 : d.length = 16) (h : Tab w tb mb lv l) :
    Calls Try.prog 51 #[.pointer (some ⟨tb, 0, none⟩), digV d, .int .u32 p, .agg #[.int .i64 u.row, .int .i64 u.group, .int .i64 u.unit], .int .i64 t] w
      (TabPost tb mb lv (addL l d p u t).1 (.tuple #[.int .i64 (addL l d p u t).2.1, .int .i64 (addL l d p u t).2.2]) w) := by
  have HT := Lib.hid h
  have hc0 := h.open.1
  have hc1 := h.open.2.1
  have htb := Go.block_lt_of_cell hc1
  clear h
  have hparts := HT.out.parts
  have HP := Lib.hid hparts
  have hlen := HT.out.open.2.2.1
  obtain ⟨dc, hdc⟩ : ∃ dc, dc = (d.map (Value.int .u8)).toArray := ⟨_, rfl⟩
  have hdv : digV d = .agg dc := by rw [hdc]; rfl
  obtain ⟨w1, hw1⟩ : ∃ w1, w1 = ((w.alloc (.cells #[.pointer (some ⟨tb, 0, none⟩)] 27)).alloc (.cells dc 42)).alloc (.cells #[.int .i64 u.row, .int .i64 u.group, .int .i64 u.unit] 26) := ⟨_, rfl⟩
  have hm1 : Mod [] w w1 := by rw [hw1]; exact (((Mod.refl _ _).alloc _).alloc _).alloc _
  have hs1 : w1.heap.size = w.heap.size + 3 := by rw [hw1]; simp
  have b0 : w1.cell? ⟨w.heap.size, 0, none⟩ = some (.pointer (some ⟨tb, 0, none⟩)) := by
    rw [hw1]
    have hq : Mod [] (w.alloc (.cells #[.pointer (some ⟨tb, 0, none⟩)] 27)) w1 := by rw [hw1]; exact ((Mod.refl _ _).alloc _).alloc _
    rw [hw1] at hq
    exact hq.cell (by rw [cell_of_row _ _ _ _ _ _ (heap_alloc_at w _)]; rfl) (by simp)
  have bdig : Row w1 (w.heap.size + 1) 0 (d.map (Value.int .u8)) := by
    have hq : Mod [] ((w.alloc (.cells #[.pointer (some ⟨tb, 0, none⟩)] 27)).alloc (.cells dc 42)) w1 := by rw [hw1]; exact (Mod.refl _ _).alloc _
    have hh := heap_alloc_at (w.alloc (.cells #[.pointer (some ⟨tb, 0, none⟩)] 27)) (.cells dc 42)
    rw [alloc_size, hdc] at hh
    rw [hdc] at hq
    exact (Row.of_heap hh).mod hq (by simp)
  have hun : Row w1 (w.heap.size + 1 + 1) 0 u.cells := by
    have hh := heap_alloc_at ((w.alloc (.cells #[.pointer (some ⟨tb, 0, none⟩)] 27)).alloc (.cells dc 42)) (.cells #[.int .i64 u.row, .int .i64 u.group, .int .i64 u.unit] 26)
    rw [alloc_size, alloc_size, ← hw1] at hh
    exact Row.of_heap (cs := u.cells) hh
  have HW1 := Lib.hid hw1
  have HDc := Lib.hid hdc
  rw [hdv]
  clear hw1 hdc hdv hparts
  go_enter Try.func51, Try.ntmps51
  go_wp2
  rw [← HW1.out]
  clear HW1 HDc
  have u0 := hun 0 _ rfl
  have u1 := hun 1 _ rfl
  have u2 := hun 2 _ rfl
  have c0 := hm1.cell hc0 (by simp)
  have c1 := hm1.cell hc1 (by simp)
  have hlk : ∀ (n : Nat), (Instr.lookup 118 (.map (some mb)) (.agg #[.int .i64 u.row, .int .i64 u.group, .int .i64 u.unit]) true).run Try.prog (w1.drewN n) = .ok (.tuple #[.int .i64 ((atU l u).getD 0), .bool (atU l u).isSome]) (w1.drewN n) :=
    fun n => (HT.out.mod0 (hm1.drewN n)).lookup u
  have hm2 : ∀ n, Mod [] w (w1.drewN n) := fun n => hm1.drewN n
  have bun := hun
  clear hun hc0 hc1
  cases hok : u.ok with
  | false =>
    have e1 : addL l d p u t = (l, 0, 1) := by simp [addL, hok]
    have HE := Lib.hid e1
    have HOk := Lib.hid hok
    generalize (atU l u).getD 0 = r0 at *
    generalize (atU l u).isSome = r1 at *
    clear hok e1
    go_quiet (fail)
    go_wp2_with (go_at_call 67; refine (valid_any u _).mono ?_; rintro e w2 ⟨rfl, hmv⟩; rw [HOk.out])
    go_ret2
    exact ⟨lv, by rw [HE.out]; rfl, by rw [HE.out]; exact HT.out.mod0 ((hm2 _).trans_nil hmv), ((hm2 _).trans_nil hmv).nil, .inl rfl⟩
  | true =>
    cases htn : tenB t with
    | false =>
      have e1 : addL l d p u t = (l, 0, 1) := by simp [addL, hok, htn]
      have HE := Lib.hid e1
      have HOk := Lib.hid hok
      have HTn := Lib.hid htn
      generalize (atU l u).getD 0 = r0 at *
      generalize (atU l u).isSome = r1 at *
      clear hok e1 htn
      go_quiet (fail)
      go_wp2_with (first | (go_at_call 67; refine (valid_any u _).mono ?_; rintro e w2 ⟨rfl, hmv⟩; rw [HOk.out]) | (go_at_call 94; refine (isTenant_any t _).mono ?_; rintro e w3 ⟨rfl, rfl⟩; rw [HTn.out]))
      go_ret2
      exact ⟨lv, by rw [HE.out]; rfl, by rw [HE.out]; exact HT.out.mod0 ((hm2 _).trans_nil hmv), ((hm2 _).trans_nil hmv).nil, .inl rfl⟩
    | true =>
      have HOk := Lib.hid hok
      have HTn := Lib.hid htn
      cases hat : atU l u with
      | some o =>
        have e1 : addL l d p u t = (l, 0, 20) := by simp [addL, hok, htn, hat]
        have HE := Lib.hid e1
        rw [hat] at hlk
        simp only [Option.getD_some, Option.isSome_some] at hlk
        clear hok e1 htn hat
        go_quiet (fail)
        go_wp2_with (first | (go_at_call 67; refine (valid_any u _).mono ?_; rintro e w2 ⟨rfl, hmv⟩; rw [HOk.out]) | (go_at_call 94; refine (isTenant_any t _).mono ?_; rintro e w3 ⟨rfl, rfl⟩; rw [HTn.out]))
        go_ret2
        exact ⟨lv, by rw [HE.out]; rfl, by rw [HE.out]; exact HT.out.mod0 ((hm2 _).trans_nil hmv), ((hm2 _).trans_nil hmv).nil, .inl rfl⟩
      | none =>
        have HAt := Lib.hid hat
        rw [hat] at hlk
        simp only [Option.getD_none, Option.isSome_none] at hlk
        by_cases hfull : 65536 ≤ l.length
        · have e1 : addL l d p u t = (l, 0, 2) := by simp [addL, hok, htn, hat, hfull]
          have HE := Lib.hid e1
          have hfi : (65536 : Int) ≤ (l.length : Int) := by omega
          rcases HT.out.open.2.2.2.2 with ⟨_, rfl⟩ | ⟨b, cap, rfl, _⟩
          · simp at hfull
          · clear hok e1 htn hat
            go_quiet (fail)
            go_wp2_with (first | (go_at_call 67; refine (valid_any u _).mono ?_; rintro e w2 ⟨rfl, hmv⟩; rw [HOk.out]; have d0 := hmv.cell (b := tb) (o := 0) c0 (by simp); have d1 := hmv.cell (b := tb) (o := 1) c1 (by simp); have dd0 := hmv.cell (b := w.heap.size) (o := 0) b0 (by simp)) | (go_at_call 94; refine (isTenant_any t _).mono ?_; rintro e w3 ⟨rfl, rfl⟩; rw [HTn.out]))
            go_ret2
            exact ⟨_, by rw [HE.out]; rfl, by rw [HE.out]; exact HT.out.mod0 ((hm2 _).trans_nil hmv), ((hm2 _).trans_nil hmv).nil, .inl rfl⟩
        · have e1 : addL l d p u t = (putCk l (slot l) (newCk l d p u t), (slot l : Int) + 1, 0) := by simp [addL, hok, htn, hat, hfull, putCk, newCk]
          have HE := Lib.hid e1
          have hinv := inv_add HT.out.open.2.2.2.1 (p := p) hok htn hat (by omega) hd16
          have HInv := Lib.hid hinv
          clear e1 hok htn hat hinv
          obtain ⟨ad, n, cap, rfl, hn⟩ := HT.out.isSlice
          have hfi : (65536 : Int) ≤ (n : Int) ↔ False := ⟨fun h => by omega, False.elim⟩
          have HN := Lib.hid hn
          obtain ⟨k, hk⟩ : ∃ k, slot l = k := ⟨_, rfl⟩
          have hkl : k ≤ n := by rw [← hk, hn]; exact slot_le l
          have hwr : IntKind.i64.wrap ((k : Int) + 1) = (k : Int) + 1 := IntWalk.i64_in _ (by omega)
          have HK := Lib.hid hk
          clear hk hn hfull
          go_quiet (fail)
          go_wp2_with (first | (go_at_call 67; refine (valid_any u _).mono ?_; rintro e w2 ⟨rfl, hmv⟩; rw [HOk.out]; have d0 := hmv.cell (b := tb) (o := 0) c0 (by simp); have d1 := hmv.cell (b := tb) (o := 1) c1 (by simp); have ddig := bdig.mod (((Mod.refl [] w1).drewN nq).trans_nil hmv) (by simp); have dun := bun.mod (((Mod.refl [] w1).drewN nq).trans_nil hmv) (by simp); have dd0 := hmv.cell (b := w.heap.size) (o := 0) b0 (by simp)) | (go_at_call 94; refine (isTenant_any t _).mono ?_; rintro e w3 ⟨rfl, rfl⟩; rw [HTn.out]) | (go_at_call 95; refine (search_tab w2 w.heap.size tb mb _ l n HN.out (HT.out.mod0 ((hm2 _).trans_nil hmv)) dd0).mono ?_; rintro e w4 ⟨rfl, hms⟩; have edig := ddig.mod hms (by simp); have eun := dun.mod hms (by simp); have v0 := eun 0 _ rfl; have v1 := eun 1 _ rfl; have v2 := eun 2 _ rfl; rw [HK.out]) | (refine wpList_load_at rfl 42 (.tmp 6) rfl _ Try.underlying42 rfl 16 info42 (w.heap.size + 1) 0 (d.map (Value.int .u8)) rfl edig (by simpa using hd16) ?_) | (refine wpList_build_ck rfl (.tmp 51) (.tmp 52) (.tmp 53) (.tmp 54) (.tmp 57) rfl (⟨(k : Int) + 1, d, p, u, false, [(t, 1)]⟩ : Ck) (some ⟨w4.heap.size, 0, none⟩) 1 1 rfl rfl rfl rfl rfl hd16 rfl ?_) | (refine wpList_store_at rfl 45 (.tmp 15) (.tmp 58) rfl 23 info45 (w4.heap.size + 1) 0 45 zeroCells ((⟨(k : Int) + 1, d, p, u, false, [(t, 1)]⟩ : Ck).cells (.slice (some ⟨w4.heap.size, 0, none⟩) 1 1)) rfl rfl (alloc2_at w4 _ _) (by rw [Ck.cells_len]; show d.length + 7 = 23; omega) (oneCell_ck rfl) (by rw [Ck.cells_len]; show 0 + (d.length + 7) ≤ 23; omega) ?_; intro w6 hh6 hs6))
          have hdl : ((⟨(k : Int) + 1, d, p, u, false, [(t, 1)]⟩ : Ck).cells (.slice (some ⟨w4.heap.size, 0, none⟩) 1 1)).length = 23 := by rw [Ck.cells_len]; show d.length + 7 = 23; omega
          rw [splice_all _ _ (by rw [hdl]; rfl)] at hh6
          have hm46 : Mod [] w4 w6 := (((Mod.refl [] w4).alloc _).alloc _).trans hs6 (by simp)
          have hm26 : Mod [] w2 w6 := hms.trans_nil hm46
          have hm6 : Mod [] w w6 := ((hm2 _).trans_nil hmv).trans_nil hm26
          have h46 := hm46.size
          have h04 := (((hm1.trans_nil ((Mod.refl [] w1).drewN nq)).trans_nil hmv).trans_nil hms).size
          have hs4 : w4.heap.size + 1 < w6.heap.size := lt_of_heap hh6
          have f0 := hm26.cell dd0 (by simp)
          have ft0 := hm26.cell d0 (by simp)
          have ft1 := hm26.cell d1 (by simp)
          have fun6 := eun.mod hm46 (by simp)
          have hrow6 : Row w6 (w4.heap.size + 1) 0 ((⟨(k : Int) + 1, d, p, u, false, [(t, 1)]⟩ : Ck).cells (.slice (some ⟨w4.heap.size, 0, none⟩) 1 1)) := Row.of_heap hh6
          obtain ⟨cs, M, a1, a2, a3, a4, a5, a6⟩ := HT.out.mod0 hm6
          subst a3
          have H1 := Lib.hid a1
          have H2 := Lib.hid a2
          have H4 := Lib.hid a4
          have H5 := Lib.hid a5
          have H6 := Lib.hid a6
          have HH6 := Lib.hid hh6
          clear a1 a2 a4 a5 a6 hh6 hlk hm1
          obtain ⟨E, hE⟩ : ∃ E, E = (⟨(k : Int) + 1, d, p, u, false, [(t, 1)]⟩ : Ck).cells (.slice (some ⟨w4.heap.size, 0, none⟩) 1 1) := ⟨_, rfl⟩
          rw [← hE] at hdl hrow6
          have HEq := Lib.hid hE
          clear hE
          have hkp : ∀ (w' : World) (SS : List Nat), Mod SS w6 w' → w.heap.size ∉ SS → w4.heap.size + 1 ∉ SS → w'.cell? ⟨w.heap.size, 0, none⟩ = some (.pointer (some ⟨tb, 0, none⟩)) ∧ w'.rangeAt (w4.heap.size + 1) 0 E := fun w' SS hq q1 q3 => ⟨hq.cell f0 q1, hrow6.mod hq q3⟩
          have hown : ∀ x, x ∈ (Value.slice ad n cap).ownBlock.toList → x ≠ tb ∧ x ≠ mb ∧ x < w.heap.size := by
            intro x hx
            rw [Option.mem_toList] at hx
            have := HP.out.2.1 x hx
            exact ⟨this.1, this.2, HP.out.2.2.2.2.2 x hx⟩
          have hkA : ∀ o, (w6.drew.alloc o).cell? ⟨w.heap.size, 0, none⟩ = some (.pointer (some ⟨tb, 0, none⟩)) ∧ (w6.drew.alloc o).rangeAt (w4.heap.size + 1) 0 E := fun o => hkp _ [] (((Mod.refl [] w6).drew).alloc o) (by simp) (by simp)
          have hk7 : ∀ (w' : World) o, Mod (Value.slice ad n cap).ownBlock.toList (w6.drew.alloc o) w' → w'.cell? ⟨w.heap.size, 0, none⟩ = some (.pointer (some ⟨tb, 0, none⟩)) ∧ w'.rangeAt (w4.heap.size + 1) 0 E := fun w' o q1 => hkp _ (Value.slice ad n cap).ownBlock.toList ((((Mod.refl [] w6).drew).alloc o).nil.trans q1 (fun x hx => .inl hx)) (fun hx => by have := (hown _ hx).2.2; omega) (fun hx => by have := (hown _ hx).2.2; omega)
          have hk8 : ∀ (w' : World) o (v : Value), Mod (Value.slice ad n cap).ownBlock.toList (w6.drew.alloc o) w' → (w'.setCell ⟨tb, 0, none⟩ v).cell? ⟨w.heap.size, 0, none⟩ = some (.pointer (some ⟨tb, 0, none⟩)) ∧ (w'.setCell ⟨tb, 0, none⟩ v).rangeAt (w4.heap.size + 1) 0 E := fun w' o v q1 => hkp _ (tb :: (Value.slice ad n cap).ownBlock.toList) (((((Mod.refl [] w6).drew).alloc o).nil.trans q1 (fun x hx => .inl (List.mem_cons_of_mem _ hx))).setCell _ _ (.inl (by simp))) (fun hx => by rcases List.mem_cons.1 hx with hx | hx; omega; have := (hown _ hx).2.2; omega) (fun hx => by rcases List.mem_cons.1 hx with hx | hx; omega; have := (hown _ hx).2.2; omega)
          have ftA : ∀ o, (w6.alloc o).cell? ⟨tb, 0, none⟩ = some (.slice ad n cap) := fun o => ((Mod.refl [] w6).alloc o).cell ft0 (by simp)
          have hone6 := oneCell_cks H2.out.2
          have hE1 : ∀ u ∈ E, u.oneCell' = true := by rw [HEq.out]; exact oneCell_ck rfl
          have hkl6 : k ≤ (cs.map fun p => p.1.cells p.2).length := by rw [List.length_map, ← cksOf_len, ← HN.out]; exact hkl
          have hlen6 : (cs.map fun p => p.1.cells p.2).length ≤ 65536 := by rw [List.length_map, ← cksOf_len]; exact hlen
          have HkA := Lib.hid hkA
          have Hk7 := Lib.hid hk7
          have Hk8 := Lib.hid hk8
          have HOwn := Lib.hid hown
          have HOne6 := Lib.hid hone6
          have HE1 := Lib.hid hE1
          clear hkp hkA hk7 hk8 hown hone6 hE1
          have hS : w6.drew.cell? ⟨w.heap.size, 0, none⟩ = some (.pointer (some ⟨tb, 0, none⟩)) ∧ w6.drew.rangeAt (w4.heap.size + 1) 0 E := ⟨f0, hrow6.mod ((Mod.refl [] w6).drew) (by simp)⟩
          refine wp_region_held_drew (S := fun w' => w'.cell? ⟨w.heap.size, 0, none⟩ = some (.pointer (some ⟨tb, 0, none⟩)) ∧ w'.rangeAt (w4.heap.size + 1) 0 E) (by kernel_rfl) hS (fun hHeld => ?_)
          refine wpAnyH_take (i := 0) (v := (.pointer (some ⟨tb, 0, none⟩))) rfl (by kernel_rfl) (by kernel_rfl) (by kernel_rfl) (fun _ _ _ h => h) (Or.inl ⟨by rfl, ?_⟩) (by assumption) ?_
          · (intro wz hSz; obtain ⟨z0, z1⟩ := hSz; clear z1; go_simp)
          (try simp only [Act.put, List.setIfInBounds_toArray, List.set_cons_zero, List.set_cons_succ])
          refine wpAnyH_take (i := 1) (v := (.pointer (some ⟨tb, 0, none⟩))) rfl (by kernel_rfl) (by kernel_rfl) (by kernel_rfl) (fun _ _ _ h => h) (Or.inl ⟨by rfl, ?_⟩) (by assumption) ?_
          · (intro wz hSz; obtain ⟨z0, z1⟩ := hSz; clear z1; go_simp)
          (try simp only [Act.put, List.setIfInBounds_toArray, List.set_cons_zero, List.set_cons_succ])
          refine wpAnyH_take (i := 2) (v := (.pointer (some ⟨tb, 0, none⟩))) rfl (by kernel_rfl) (by kernel_rfl) (by kernel_rfl) (fun _ _ _ h => h) (Or.inl ⟨by rfl, ?_⟩) (by assumption) ?_
          · (intro wz hSz; obtain ⟨z0, z1⟩ := hSz; clear z1; go_simp)
          (try simp only [Act.put, List.setIfInBounds_toArray, List.set_cons_zero, List.set_cons_succ])
          refine wpAnyH_take (i := 3) (v := (.pointer (some ⟨tb, 0, none⟩))) rfl (by kernel_rfl) (by kernel_rfl) (by kernel_rfl) (fun _ _ _ h => h) (Or.inl ⟨by rfl, ?_⟩) (by assumption) ?_
          · (intro wz hSz; obtain ⟨z0, z1⟩ := hSz; clear z1; go_simp)
          (try simp only [Act.put, List.setIfInBounds_toArray, List.set_cons_zero, List.set_cons_succ])
          refine wpAnyH_take (i := 5) (v := (.int .i64 k)) rfl (by kernel_rfl) (by kernel_rfl) (by kernel_rfl) (fun _ _ _ h => h) (Or.inl ⟨by rfl, ?_⟩) (by assumption) ?_
          · (intro wz hSz; obtain ⟨z0, z1⟩ := hSz; clear z1; go_simp)
          (try simp only [Act.put, List.setIfInBounds_toArray, List.set_cons_zero, List.set_cons_succ])
          refine wpAnyH_take (i := 6) (v := (.agg E.toArray)) rfl (by kernel_rfl) (by kernel_rfl) (by kernel_rfl) (fun _ _ _ h => h) (yieldsIf_load_mid (by rfl) _ _ rfl _ _ rfl _ _ (fun _ h => h.2) Try.underlying45 rfl (by rw [hdl]; exact info45)) (by assumption) ?_
          (try simp only [Act.put, List.setIfInBounds_toArray, List.set_cons_zero, List.set_cons_succ])
          refine wpAnyH_ready (rs := [4, 7]) (by kernel_rfl) (by simp) ?_
          refine AllReadyH.cons (i := 4) rfl (fun K' hK => ?_) (AllReadyH.cons (i := 7) rfl (fun K' hK => ?_) AllReadyH.nil)
          · go_simp
            refine hK.out _ _ (hS) (fun _ => ?_)
            clear hK K'
            (try simp only [Act.put, List.setIfInBounds_toArray, List.set_cons_zero, List.set_cons_succ])
            refine wpAnyH_ready (rs := [7]) (by kernel_rfl) (by simp) ?_
            refine AllReadyH.cons (i := 7) rfl (fun K' hK => ?_) AllReadyH.nil
            rw [if_pos (by rfl)]
            refine wp_buildSlice_ck (.tmp 65) rfl E hdl rfl ?_
            refine hK.out _ _ (HkA.out _) (fun _ => ?_)
            clear hK K'
            (try simp only [Act.put, List.setIfInBounds_toArray, List.set_cons_zero, List.set_cons_succ])
            refine wpAnyH_ready (rs := [8]) (by kernel_rfl) (by simp) ?_
            refine AllReadyH.cons (i := 8) rfl (fun K' hK => ?_) AllReadyH.nil
            go_simp
            (go_at_call 97; refine (insertC_any _ (.slice ad n cap) k w6.heap.size (cs.map fun p => p.1.cells p.2) E hkl6 hlen6 (H2.out.1.mod (((Mod.refl [] w6).drew).alloc _) (by simp)) (heap_alloc_at w6.drew _) hdl HOne6.out HE1.out (fun b hb => by have := (HOwn.out b (by rw [Option.mem_toList]; exact hb)).2.2; omega)).mono ?_; rintro e w7 ⟨v', rfl, ho7, hm7, hf7⟩; obtain ⟨sa, sn, sc, rfl⟩ := ho7.isSlice; have htb7 := hm7.heap ((((Mod.refl [] w6).drew).alloc _).heap H1.out (by simp)) (fun hx => (HOwn.out _ hx).1 rfl); have fz7 := frozen_of_row w7 tb 0 _ _ htb7; have ct7 : w7.cell? ⟨tb, 0, none⟩ = some (.slice ad n cap) := (by rw [cell_of_row _ _ _ _ _ _ htb7]; rfl); have HTb7 := Lib.hid htb7; clear htb7)
            go_wp2_with fail
            refine hK.out _ _ (Hk7.out _ _ hm7) (fun _ => ?_)
            clear hK K'
            (try simp only [Act.put, List.setIfInBounds_toArray, List.set_cons_zero, List.set_cons_succ])
            refine wpAnyH_ready (rs := [9]) (by kernel_rfl) (by simp) ?_
            refine AllReadyH.cons (i := 9) rfl (fun K' hK => ?_) AllReadyH.nil
            go_simp
            refine hK.out _ _ (Hk7.out _ _ hm7) (fun _ => ?_)
            clear hK K'
            (try simp only [Act.put, List.setIfInBounds_toArray, List.set_cons_zero, List.set_cons_succ])
            refine wpAnyH_ready (rs := [10]) (by kernel_rfl) (by simp) ?_
            refine AllReadyH.cons (i := 10) rfl (fun K' hK => ?_) AllReadyH.nil
            go_simp
            refine hK.out _ _ (Hk7.out _ _ hm7) (fun _ => ?_)
            clear hK K'
            (try simp only [Act.put, List.setIfInBounds_toArray, List.set_cons_zero, List.set_cons_succ])
            refine wpAnyH_ready (rs := [11]) (by kernel_rfl) (by simp) ?_
            refine AllReadyH.cons (i := 11) rfl (fun K' hK => ?_) AllReadyH.nil
            go_simp
            refine hK.out _ _ (Hk8.out _ _ _ hm7) (fun _ => ?_)
            clear hK K'
            (try simp only [Act.put, List.setIfInBounds_toArray, List.set_cons_zero, List.set_cons_succ])
            refine wpAnyH_done (by kernel_rfl) ?_ _
            have hm67 : Mod (Value.slice ad n cap).ownBlock.toList w6 w7 := by
              first
              | exact ((((Mod.refl [] w6).drew).alloc _).nil.trans hm7 (fun x hx => .inl hx))
              | exact ((((Mod.refl [] w6).alloc _).drew).nil.trans hm7 (fun x hx => .inl hx))
            have h67 := hm67.size
            have hf67 : (Value.slice sa sn sc).ownBlock = (Value.slice ad n cap).ownBlock ∨ ∃ g, (Value.slice sa sn sc).ownBlock = some g ∧ w.heap.size ≤ g := by
              rcases hf7 with h | ⟨g, h, hg⟩
              · exact .inl h
              · refine .inr ⟨g, h, ?_⟩
                have : w6.heap.size ≤ g := by
                  refine Nat.le_trans ?_ hg
                  simp
                omega
            have hnb : ∀ b, (Value.slice sa sn sc).ownBlock = some b → b ≠ tb ∧ b ≠ mb := by
              intro b hb
              rcases hf67 with h | ⟨g, h, hg⟩
              · rw [h] at hb
                have := HOwn.out b (by rw [Option.mem_toList]; exact hb)
                exact ⟨this.1, this.2.1⟩
              · rw [h] at hb
                cases hb
                have h1 := HP.out.2.2.2.1
                have h2 := HP.out.2.2.2.2.1
                omega
            obtain ⟨w8, hw8⟩ : ∃ w8, w8 = w7.setCell ⟨tb, 0, none⟩ (.slice sa sn sc) := ⟨_, rfl⟩
            have hm78 : Mod [tb] w7 w8 := by rw [hw8]; exact (Mod.refl _ _).setCell _ _ (by simp)
            have hm68 : Mod (tb :: (Value.slice ad n cap).ownBlock.toList) w6 w8 := (hm67.mono (fun x hx => List.mem_cons_of_mem _ hx)).trans hm78 (by simp)
            have htb8 : w8.heap[tb]? = some (.cells #[.slice sa sn sc, .map (some mb)] 120 (0, 0)) := by
              rw [hw8, heap_setCell_same w7 tb 0 _ _ _ HTb7.out]; rfl
            have hmbw := HP.out.2.2.2.2.1
            have htmb := HP.out.1
            have hno : ∀ x, w.heap.size ≤ x → x ∉ tb :: (Value.slice ad n cap).ownBlock.toList := by
              intro x hx hm
              rcases List.mem_cons.1 hm with h | h
              · omega
              · have := (HOwn.out x h).2.2; omega
            have k0 := hm68.cell f0 (hno _ (Nat.le_refl _))
            have k1 : w8.cell? ⟨tb, 1, none⟩ = some (.map (some mb)) := by rw [cell_of_row _ _ _ _ _ _ htb8]; rfl
            have kun := fun6.mod hm68 (hno _ (by omega))
            have ku0 := kun 0 _ rfl
            have ku1 := kun 1 _ rfl
            have ku2 := kun 2 _ rfl
            have kid : w8.cell? ⟨w4.heap.size + 1, 0, none⟩ = some (.int .i64 ((k : Int) + 1)) := (hrow6.mod hm68 (hno _ (by omega))).at0 _ (by rw [HEq.out]; rfl)
            have hmb8 : mb ∉ tb :: (Value.slice ad n cap).ownBlock.toList := by
              intro hm
              rcases List.mem_cons.1 hm with h | h
              · exact htmb h.symm
              · exact (HOwn.out mb h).2.1 rfl
            have HM8 := Lib.hid (H4.out.mod hm68 hmb8)
            have HTb8 := Lib.hid htb8
            have HNb := Lib.hid hnb
            have HNo := Lib.hid hno
            rw [← hw8]
            clear htb8 hnb hno hw8 ct7 fz7
            go_wp2
            go_still_tail 7, (by kernel_rfl)
            go_wp2_with (refine wpList_mapUpdate_unit rfl (.tmp 73) (.tmp 74) (.tmp 76) rfl mb u ((k : Int) + 1) M rfl rfl rfl (HM8.out.mod ((Mod.refl [] w8).drew) (by simp)) ?_; intro w9 hM9 hm9; have kid9 := hm9.cell (b := w4.heap.size + 1) (o := 0) kid (by simp; omega); have HM9 := Lib.hid hM9; clear hM9)
            go_ret2
            have hm89 : Mod [mb] w8 w9 := ((Mod.refl [mb] w8).drew).trans hm9 (by simp)
            have hm69 : Mod (foot tb mb (.slice ad n cap)) w6 w9 := (hm68.mono (fun x hx => by rcases List.mem_cons.1 hx with h | h <;> simp [foot, h])).trans hm89 (by simp [foot])
            have hnr := (HT.out.mod0 hm6).parts.2.2.1
            have ho9 := (ho7.mod hm78 (fun b hb => by simpa using (HNb.out b hb).1)).mod hm89 (fun b hb => by simpa using (HNb.out b hb).2)
            rw [HEq.out] at ho9
            have hr0 : Own (w4.alloc (.cells #[.int .i64 t, .int .i64 1] 113)) 113 2 (.slice (some ⟨w4.heap.size, 0, none⟩) 1 1) [refCells (t, 1)] := Own.lit w4 113 2 [refCells (t, 1)] (by simp [refCells]) (by simp [maxLen]) [.int .i64 t, .int .i64 1] rfl
            have hsz0 : (w4.alloc (.cells #[.int .i64 t, .int .i64 1] 113)).heap.size = w4.heap.size + 1 := alloc_size _ _
            have hr6 := hr0.mod (((Mod.refl [] _).alloc _).trans hs6 (by rw [hsz0]; simp)) (by simp)
            have hr9 : Refs w9 (.slice (some ⟨w4.heap.size, 0, none⟩) 1 1) [(t, 1)] := (Own.mod hm68 hr6 (fun b hb => by simp [Value.ownBlock] at hb; subst hb; exact HNo.out _ (by omega))).mod hm89 (fun b hb => by simp [Value.ownBlock] at hb; subst hb; simp; omega)
            have hch := Chunks.insert (c := (⟨(k : Int) + 1, d, p, u, false, [(t, 1)]⟩ : Ck)) H2.out hm69 hnr ho9 hr9
            have hinv := HInv.out
            unfold newCk at hinv
            rw [HK.out] at hinv
            have hag := agree_add (c := (⟨(k : Int) + 1, d, p, u, false, [(t, 1)]⟩ : Ck)) H5.out H6.out rfl HAt.out hinv
            have hT9 : Tab w9 tb mb (.slice sa sn sc) (putCk (cksOf cs) k (⟨(k : Int) + 1, d, p, u, false, [(t, 1)]⟩ : Ck)) := ⟨_, _, hm89.heap HTb8.out (by simpa using htmb), hch, by simp [cksOf, putCk, List.map_take, List.map_drop], HM9.out, hag, hinv⟩
            have hE := HE.out
            unfold newCk at hE
            rw [HK.out] at hE
            refine ⟨.slice sa sn sc, by rw [hE]; rfl, by rw [hE]; exact hT9, ?_, hf67⟩
            exact hm6.nil.trans hm69 (fun x hx => .inl hx)
          · rw [if_pos (by rfl)]
            refine wp_buildSlice_ck (.tmp 65) rfl E hdl rfl ?_
            refine hK.out _ _ (HkA.out _) (fun _ => ?_)
            clear hK K'
            (try simp only [Act.put, List.setIfInBounds_toArray, List.set_cons_zero, List.set_cons_succ])
            refine wpAnyH_ready (rs := [4]) (by kernel_rfl) (by simp) ?_
            refine AllReadyH.cons (i := 4) rfl (fun K' hK => ?_) AllReadyH.nil
            have ftA' := ftA (.cells E.toArray 45)
            go_simp
            refine hK.out _ _ (HkA.out _) (fun _ => ?_)
            clear hK K'
            (try simp only [Act.put, List.setIfInBounds_toArray, List.set_cons_zero, List.set_cons_succ])
            refine wpAnyH_ready (rs := [8]) (by kernel_rfl) (by simp) ?_
            refine AllReadyH.cons (i := 8) rfl (fun K' hK => ?_) AllReadyH.nil
            go_simp
            (go_at_call 97; refine (insertC_any _ (.slice ad n cap) k w6.heap.size (cs.map fun p => p.1.cells p.2) E hkl6 hlen6 (H2.out.1.mod (((Mod.refl [] w6).drew).alloc _) (by simp)) (heap_alloc_at w6.drew _) hdl HOne6.out HE1.out (fun b hb => by have := (HOwn.out b (by rw [Option.mem_toList]; exact hb)).2.2; omega)).mono ?_; rintro e w7 ⟨v', rfl, ho7, hm7, hf7⟩; obtain ⟨sa, sn, sc, rfl⟩ := ho7.isSlice; have htb7 := hm7.heap ((((Mod.refl [] w6).drew).alloc _).heap H1.out (by simp)) (fun hx => (HOwn.out _ hx).1 rfl); have fz7 := frozen_of_row w7 tb 0 _ _ htb7; have ct7 : w7.cell? ⟨tb, 0, none⟩ = some (.slice ad n cap) := (by rw [cell_of_row _ _ _ _ _ _ htb7]; rfl); have HTb7 := Lib.hid htb7; clear htb7)
            go_wp2_with fail
            refine hK.out _ _ (Hk7.out _ _ hm7) (fun _ => ?_)
            clear hK K'
            (try simp only [Act.put, List.setIfInBounds_toArray, List.set_cons_zero, List.set_cons_succ])
            refine wpAnyH_ready (rs := [9]) (by kernel_rfl) (by simp) ?_
            refine AllReadyH.cons (i := 9) rfl (fun K' hK => ?_) AllReadyH.nil
            go_simp
            refine hK.out _ _ (Hk7.out _ _ hm7) (fun _ => ?_)
            clear hK K'
            (try simp only [Act.put, List.setIfInBounds_toArray, List.set_cons_zero, List.set_cons_succ])
            refine wpAnyH_ready (rs := [10]) (by kernel_rfl) (by simp) ?_
            refine AllReadyH.cons (i := 10) rfl (fun K' hK => ?_) AllReadyH.nil
            go_simp
            refine hK.out _ _ (Hk7.out _ _ hm7) (fun _ => ?_)
            clear hK K'
            (try simp only [Act.put, List.setIfInBounds_toArray, List.set_cons_zero, List.set_cons_succ])
            refine wpAnyH_ready (rs := [11]) (by kernel_rfl) (by simp) ?_
            refine AllReadyH.cons (i := 11) rfl (fun K' hK => ?_) AllReadyH.nil
            go_simp
            refine hK.out _ _ (Hk8.out _ _ _ hm7) (fun _ => ?_)
            clear hK K'
            (try simp only [Act.put, List.setIfInBounds_toArray, List.set_cons_zero, List.set_cons_succ])
            refine wpAnyH_done (by kernel_rfl) ?_ _
            have hm67 : Mod (Value.slice ad n cap).ownBlock.toList w6 w7 := by
              first
              | exact ((((Mod.refl [] w6).drew).alloc _).nil.trans hm7 (fun x hx => .inl hx))
              | exact ((((Mod.refl [] w6).alloc _).drew).nil.trans hm7 (fun x hx => .inl hx))
            have h67 := hm67.size
            have hf67 : (Value.slice sa sn sc).ownBlock = (Value.slice ad n cap).ownBlock ∨ ∃ g, (Value.slice sa sn sc).ownBlock = some g ∧ w.heap.size ≤ g := by
              rcases hf7 with h | ⟨g, h, hg⟩
              · exact .inl h
              · refine .inr ⟨g, h, ?_⟩
                have : w6.heap.size ≤ g := by
                  refine Nat.le_trans ?_ hg
                  simp
                omega
            have hnb : ∀ b, (Value.slice sa sn sc).ownBlock = some b → b ≠ tb ∧ b ≠ mb := by
              intro b hb
              rcases hf67 with h | ⟨g, h, hg⟩
              · rw [h] at hb
                have := HOwn.out b (by rw [Option.mem_toList]; exact hb)
                exact ⟨this.1, this.2.1⟩
              · rw [h] at hb
                cases hb
                have h1 := HP.out.2.2.2.1
                have h2 := HP.out.2.2.2.2.1
                omega
            obtain ⟨w8, hw8⟩ : ∃ w8, w8 = w7.setCell ⟨tb, 0, none⟩ (.slice sa sn sc) := ⟨_, rfl⟩
            have hm78 : Mod [tb] w7 w8 := by rw [hw8]; exact (Mod.refl _ _).setCell _ _ (by simp)
            have hm68 : Mod (tb :: (Value.slice ad n cap).ownBlock.toList) w6 w8 := (hm67.mono (fun x hx => List.mem_cons_of_mem _ hx)).trans hm78 (by simp)
            have htb8 : w8.heap[tb]? = some (.cells #[.slice sa sn sc, .map (some mb)] 120 (0, 0)) := by
              rw [hw8, heap_setCell_same w7 tb 0 _ _ _ HTb7.out]; rfl
            have hmbw := HP.out.2.2.2.2.1
            have htmb := HP.out.1
            have hno : ∀ x, w.heap.size ≤ x → x ∉ tb :: (Value.slice ad n cap).ownBlock.toList := by
              intro x hx hm
              rcases List.mem_cons.1 hm with h | h
              · omega
              · have := (HOwn.out x h).2.2; omega
            have k0 := hm68.cell f0 (hno _ (Nat.le_refl _))
            have k1 : w8.cell? ⟨tb, 1, none⟩ = some (.map (some mb)) := by rw [cell_of_row _ _ _ _ _ _ htb8]; rfl
            have kun := fun6.mod hm68 (hno _ (by omega))
            have ku0 := kun 0 _ rfl
            have ku1 := kun 1 _ rfl
            have ku2 := kun 2 _ rfl
            have kid : w8.cell? ⟨w4.heap.size + 1, 0, none⟩ = some (.int .i64 ((k : Int) + 1)) := (hrow6.mod hm68 (hno _ (by omega))).at0 _ (by rw [HEq.out]; rfl)
            have hmb8 : mb ∉ tb :: (Value.slice ad n cap).ownBlock.toList := by
              intro hm
              rcases List.mem_cons.1 hm with h | h
              · exact htmb h.symm
              · exact (HOwn.out mb h).2.1 rfl
            have HM8 := Lib.hid (H4.out.mod hm68 hmb8)
            have HTb8 := Lib.hid htb8
            have HNb := Lib.hid hnb
            have HNo := Lib.hid hno
            rw [← hw8]
            clear htb8 hnb hno hw8 ct7 fz7
            go_wp2
            go_still_tail 7, (by kernel_rfl)
            go_wp2_with (refine wpList_mapUpdate_unit rfl (.tmp 73) (.tmp 74) (.tmp 76) rfl mb u ((k : Int) + 1) M rfl rfl rfl (HM8.out.mod ((Mod.refl [] w8).drew) (by simp)) ?_; intro w9 hM9 hm9; have kid9 := hm9.cell (b := w4.heap.size + 1) (o := 0) kid (by simp; omega); have HM9 := Lib.hid hM9; clear hM9)
            go_ret2
            have hm89 : Mod [mb] w8 w9 := ((Mod.refl [mb] w8).drew).trans hm9 (by simp)
            have hm69 : Mod (foot tb mb (.slice ad n cap)) w6 w9 := (hm68.mono (fun x hx => by rcases List.mem_cons.1 hx with h | h <;> simp [foot, h])).trans hm89 (by simp [foot])
            have hnr := (HT.out.mod0 hm6).parts.2.2.1
            have ho9 := (ho7.mod hm78 (fun b hb => by simpa using (HNb.out b hb).1)).mod hm89 (fun b hb => by simpa using (HNb.out b hb).2)
            rw [HEq.out] at ho9
            have hr0 : Own (w4.alloc (.cells #[.int .i64 t, .int .i64 1] 113)) 113 2 (.slice (some ⟨w4.heap.size, 0, none⟩) 1 1) [refCells (t, 1)] := Own.lit w4 113 2 [refCells (t, 1)] (by simp [refCells]) (by simp [maxLen]) [.int .i64 t, .int .i64 1] rfl
            have hsz0 : (w4.alloc (.cells #[.int .i64 t, .int .i64 1] 113)).heap.size = w4.heap.size + 1 := alloc_size _ _
            have hr6 := hr0.mod (((Mod.refl [] _).alloc _).trans hs6 (by rw [hsz0]; simp)) (by simp)
            have hr9 : Refs w9 (.slice (some ⟨w4.heap.size, 0, none⟩) 1 1) [(t, 1)] := (Own.mod hm68 hr6 (fun b hb => by simp [Value.ownBlock] at hb; subst hb; exact HNo.out _ (by omega))).mod hm89 (fun b hb => by simp [Value.ownBlock] at hb; subst hb; simp; omega)
            have hch := Chunks.insert (c := (⟨(k : Int) + 1, d, p, u, false, [(t, 1)]⟩ : Ck)) H2.out hm69 hnr ho9 hr9
            have hinv := HInv.out
            unfold newCk at hinv
            rw [HK.out] at hinv
            have hag := agree_add (c := (⟨(k : Int) + 1, d, p, u, false, [(t, 1)]⟩ : Ck)) H5.out H6.out rfl HAt.out hinv
            have hT9 : Tab w9 tb mb (.slice sa sn sc) (putCk (cksOf cs) k (⟨(k : Int) + 1, d, p, u, false, [(t, 1)]⟩ : Ck)) := ⟨_, _, hm89.heap HTb8.out (by simpa using htmb), hch, by simp [cksOf, putCk, List.map_take, List.map_drop], HM9.out, hag, hinv⟩
            have hE := HE.out
            unfold newCk at hE
            rw [HK.out] at hE
            refine ⟨.slice sa sn sc, by rw [hE]; rfl, by rw [hE]; exact hT9, ?_, hf67⟩
            exact hm6.nil.trans hm69 (fun x hx => .inl hx)

end Go.Proofs.Ytknkifanpppglaa
