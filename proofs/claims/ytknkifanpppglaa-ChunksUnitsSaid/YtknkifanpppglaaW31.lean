/- The law's sanity returns true. -/
import Derived.Test.YtknkifanpppglaaW30
import Derived.Deep.DeepCutAuto
namespace Go.Proofs.Ytknkifanpppglaa
open Go.RowKit

theorem OT.fresh {w0 w : World} {tb mb : Nat} {lv : Value} {l : List Ck} {K : List Nat} (h : OT w0 w tb mb lv l K) {x : Nat} (hx : w.heap.size ≤ x) : x ∉ foot tb mb lv := h.tab.fresh hx

/-- a step that makes memory, and a block that it made -/
theorem OT.step {w0 w w' : World} {tb mb : Nat} {lv : Value} {l : List Ck} {K : List Nat} (h : OT w0 w tb mb lv l K) (hm : Mod [] w w') {b : Nat} (hb : w.heap.size ≤ b) (hl : b < w'.heap.size) : OT w0 w' tb mb lv l (b :: K) :=
  (h.same hm).1.more (h.fresh hb) hl

theorem OT.own {w0 w w' : World} {tb mb : Nat} {lv : Value} {l : List Ck} {K : List Nat} (h : OT w0 w tb mb lv l K) (hm : Mod [] w w') {E sz : Nat} {v : Value} {es : List (List Value)} (ho : Own w' E sz v es) (hf : ∀ g, v.ownBlock = some g → w.heap.size ≤ g) :
    OT w0 w' tb mb lv l (v.ownBlock.toList ++ K) := by
  cases hv : v.ownBlock with
  | none => exact (h.same hm).1
  | some g => exact h.step hm (hf g hv) (Own.lt ho g hv)

structure U0 (ub : Nat) (w : World) : Prop where
  a : w.cell? ⟨ub, 0, none⟩ = some (.int .i64 2)
  b : w.cell? ⟨ub, 1, none⟩ = some (.int .i64 1)
  c : w.cell? ⟨ub, 2, none⟩ = some (.int .i64 3)
theorem U0.mod {ub : Nat} {w w' : World} (h : U0 ub w) (hm : Mod [] w w') : U0 ub w' := ⟨hm.cell h.a (by simp), hm.cell h.b (by simp), hm.cell h.c (by simp)⟩

structure Blk1 (w : World) (b : Nat) (o : Obj) : Prop where
  at_ : w.heap[b]? = some o
theorem Blk1.heapOf {w w' : World} {b : Nat} {o : Obj} (h : Blk1 w b o) (hm : Mod [] w w') : Blk1 w' b o := ⟨hm.heap h.1 (by simp)⟩
theorem U0.mod1 {ub zb : Nat} {w w' : World} (h : U0 ub w) (hz : Blk1 w zb (.cells zeroCells.toArray 45 (0, 0))) (hm : Mod [zb] w w') : U0 ub w' := by
  have hne : ub ≠ zb := by
    intro e
    subst e
    have := h.a
    rw [cell_of_row _ _ _ _ _ _ hz.1] at this
    simp [zeroCells] at this
  have hn : ub ∉ [zb] := by simpa using hne
  exact ⟨hm.cell h.a hn, hm.cell h.b hn, hm.cell h.c hn⟩

theorem wp_store_at {P : Program} {o : Oper} {a : Act} {w : World} {K : Act → World → Prop} {Q : Exit → Act → World → Prop} (ty : TypeId) (x v : Operand) (ho : o.op = .store ty x v)
    (n : Nat) (hi : (P.info? ty).map (·.size) = some n) (b off : Nat) (t : TypeId) (cur cs : List Value) (hx : a.eval x = .pointer (some ⟨b, off, none⟩)) (hv : a.eval v = .agg cs.toArray)
    (hb : w.heap[b]? = some (.cells cur.toArray t (0, 0))) (hn : cs.length = n) (h1 : ∀ u ∈ cs, u.oneCell' = true) (hf : off + cs.length ≤ cur.length)
    (h : ∀ w', w'.heap[b]? = some (.cells (splice cur off cs).toArray t (0, 0)) → Mod [b] w w' → K (a.put o.dst undef) w') : o.wp P a w K Q := by
  unfold Oper.wp execOp
  simp only [ho, hx, hv, Instr.storeAt, Instr.sureAddr, Sem.run_bind, Sem.run_pure, Result.andThen_ok, run_storeVar_at w b off ty t cur cs hb (by rw [hi, hn]) h1 hf]
  exact h _ (setRow_heap w b _ _ t _ hb) ((Mod.refl _ _).setRow _ _ (by simp))

theorem yieldsIf_build_ck {ops : Array Oper} {S : World → Prop} {o : Oper} {a : Act} (hw : Region.wanted o (yielded ops a.tmps) = true) (x0 x1 x2 x3 x5 : Operand)
    (hop : o.op = .build 45 #[(0, x0), (1, x1), (2, x2), (3, x3), (5, x5)]) (c : Ck) (ad : Option Addr) (n m : Nat) (h0 : a.eval x0 = .int .i64 c.id) (h1 : a.eval x1 = digV c.dig) (h2 : a.eval x2 = .int .u32 c.print)
    (h3 : a.eval x3 = .agg #[.int .i64 c.pos.row, .int .i64 c.pos.group, .int .i64 c.pos.unit]) (h5 : a.eval x5 = .slice ad n m) (hd : c.dig.length = 16) (hl : c.lost = false) :
    YieldsIf Try.prog ops S o (.agg (c.cells (.slice ad n m)).toArray) a :=
  .inl ⟨hw, fun w _ => by
    have hr := run_build_ck w c ad n m hd hl
    unfold execOp
    simp only [hop, Sem.run_bind, Sem.run_pure, Result.andThen_ok, List.map_toArray, List.map_cons, List.map_nil, h0, h1, h2, h3, h5, hr]⟩

/-- the chunk that the law wants -/
def Want (w0 : World) (nb : Nat) (w : World) : Prop := ∃ rv, w.heap[nb]? = some (.cells (ckT.cells rv).toArray 45 (0, 0)) ∧ Refs w rv ckT.refs ∧ Mod [] w0 w

theorem fin16 {w0 W w18 : World} {rb zb : Nat} (hM : Mod [] w0 W) (hR : Blk1 W rb (.cells #[.int .i64 0, .int .i64 2, .int .i64 1, .int .i64 1] 113 (0, 0))) (hZ : Blk1 W zb (.cells zeroCells.toArray 45 (0, 0)))
    (hz0 : w0.heap.size ≤ zb) (hh : w18.heap[zb]? = some (.cells (splice zeroCells 0 (ckT.cells (.slice (some ⟨rb, 0, none⟩) 2 2))).toArray 45 (0, 0))) (hm : Mod [zb] W w18) : Want w0 zb w18 := by
  have hne : rb ≠ zb := by
    intro e
    subst e
    have h1 := hR.1
    rw [hZ.1] at h1
    cases h1
  refine ⟨.slice (some ⟨rb, 0, none⟩) 2 2, by rw [splice_all _ _ (by rw [Ck.cells_len]; rfl)] at hh; exact hh, ?_, hM.trans hm (by simpa using hz0)⟩
  have hb := hm.heap hR.1 (by simpa using hne)
  exact ⟨by simp [refCells, ckT], by simp [refCells, ckT], .inr ⟨rb, 2, _, rfl, Nat.zero_le _, hb, by simp [ckT], by simp [maxLen], by simp [ckT], by simp [ckT, refCells]⟩⟩

set_option maxRecDepth 100000 in
set_option maxHeartbeats 4000000 in
theorem sanity_any (w : World) : Calls Try.prog 14 #[] w (BoolPost true w) := by
  go_enter Try.func14, Try.ntmps14
  go_wp2_with fail
  refine (new_any _).mono ?_
  rintro e w1 hnew
  obtain ⟨tb, mb, rfl, o1⟩ := OT.new hnew
  clear hnew
  go_wp2_with fail
  obtain ⟨w2, hw2⟩ : ∃ w2, w2 = w1.alloc (.cells #[.int .i64 2, .int .i64 1, .int .i64 3] 26) := ⟨_, rfl⟩
  have hm12 : Mod [] w1 w2 := by rw [hw2]; exact (Mod.refl _ _).alloc _
  have hur : Row w2 w1.heap.size 0 u0.cells := by rw [hw2]; exact Row.of_heap (heap_alloc_at w1 _)
  have o2 := o1.step hm12 (Nat.le_refl _) (by rw [hw2]; simp)
  obtain ⟨ub, hub⟩ : ∃ ub, w1.heap.size = ub := ⟨_, rfl⟩
  rw [← hw2, hub]
  rw [hub] at hur o2
  clear hw2 hub hm12 o1
  have c0 : w2.cell? ⟨ub, 0, none⟩ = some (.int .i64 2) := hur 0 _ rfl
  have c1 : w2.cell? ⟨ub, 1, none⟩ = some (.int .i64 1) := hur 1 _ rfl
  have c2 : w2.cell? ⟨ub, 2, none⟩ = some (.int .i64 3) := hur 2 _ rfl
  have hub2 : ub ∈ [ub] := by simp
  go_region_held3 (fun w' => w'.cell? ⟨ub, 0, none⟩ = some (.int .i64 2) ∧ w'.cell? ⟨ub, 1, none⟩ = some (.int .i64 1) ∧ w'.cell? ⟨ub, 2, none⟩ = some (.int .i64 3))
    (first | exact ⟨c0, c1, c2⟩ | exact ⟨hm3.cell c0 (by simp), hm3.cell c1 (by simp), hm3.cell c2 (by simp)⟩ | exact ⟨hr4 0 _ rfl, hr4 1 _ rfl, hr4 2 _ rfl⟩)
    (first | (go_at_call 25; refine (digest_any 9 _).mono ?_; rintro e w3 ⟨rfl, hm3⟩; have hr3 := hur.mod (((Mod.refl [] w2).drew).trans_nil hm3) (by simp)) | (go_at_call 51; refine (add_any w3 tb mb nilV [] (digOf 9) 7 u0 1 (by simp [digOf]) ((o2.same (((Mod.refl [] w2).drew).trans_nil hm3)).1.tab)).mono ?_; rintro e w4 hp4; rw [s_add] at hp4; obtain ⟨rfl, ⟨lv4, o4⟩, k4, f4, z4⟩ := (o2.same (((Mod.refl [] w2).drew).trans_nil hm3)).1.op hp4; have hr4 := k4.row hr3 hub2))
  go_wp2_with fail
  clear c0 c1 c2 hur hm3 k4 f4 z4 o2 hr3
  have c0 : w4.cell? ⟨ub, 0, none⟩ = some (.int .i64 2) := hr4 0 _ rfl
  have c1 : w4.cell? ⟨ub, 1, none⟩ = some (.int .i64 1) := hr4 1 _ rfl
  have c2 : w4.cell? ⟨ub, 2, none⟩ = some (.int .i64 3) := hr4 2 _ rfl
  go_region_held3 (fun w' => w'.cell? ⟨ub, 0, none⟩ = some (.int .i64 2) ∧ w'.cell? ⟨ub, 1, none⟩ = some (.int .i64 1) ∧ w'.cell? ⟨ub, 2, none⟩ = some (.int .i64 3))
    (first | exact ⟨c0, c1, c2⟩ | exact ⟨hm5.cell c0 (by simp), hm5.cell c1 (by simp), hm5.cell c2 (by simp)⟩ | exact ⟨hr6 0 _ rfl, hr6 1 _ rfl, hr6 2 _ rfl⟩)
    (first | (go_at_call 25; refine (digest_any 8 _).mono ?_; rintro e w5 ⟨rfl, hm5⟩; have hr5 := hr4.mod (((Mod.refl [] w4).drew).trans_nil hm5) (by simp)) | (go_at_call 51; refine (add_any w5 tb mb lv4 [ckS] (digOf 8) 7 u0 1 (by simp [digOf]) ((o4.same (((Mod.refl [] w4).drew).trans_nil hm5)).1.tab)).mono ?_; rintro e w6 hp6; rw [s_again] at hp6; obtain ⟨rfl, ⟨lv6, o6⟩, k6, f6, z6⟩ := (o4.same (((Mod.refl [] w4).drew).trans_nil hm5)).1.op hp6; have hr6 := k6.row hr5 hub2))
  go_wp2_with fail
  clear c0 c1 c2 hr4 hm5 k6 f6 z6 o4 hr5
  refine (refer_any _ tb mb lv6 [ckS] 1 0 2 o6.tab).mono ?_
  rintro e w7 hp7
  rw [s_refer] at hp7
  obtain ⟨rfl, ⟨lv7, o7⟩, k7, f7, z7⟩ := o6.op hp7
  have hr7 := k7.row hr6 hub2
  clear hp7 k7 f7 z7 o6 hr6
  go_wp2_with fail
  refine (get_any _ tb mb lv7 [ckT] 1 o7.tab).mono ?_
  rintro e w8 ⟨hm8, hg8⟩
  rw [s_get] at hg8
  obtain ⟨ck, rv, hck, hd, rfl, hrf8, hfr8⟩ : ∃ c rv, some ckT = some c ∧ c.dig.length = 16 ∧ e = .returned (.tuple #[.agg (c.cells rv).toArray, .bool true]) ∧ Refs w8 rv c.refs ∧ ∀ g, rv.ownBlock = some g → w7.heap.size ≤ g := by
    rcases hg8 with ⟨h, _⟩ | h
    · cases h
    · exact h
  cases hck
  have hr8 := hr7.mod hm8 (by simp)
  have o8 := (o7.same hm8).1
  have HRF8 := Lib.hid hrf8
  have HD := Lib.hid hd
  clear hg8 hr7 o7 hm8 hfr8 hrf8 hd
  go_wp2_with (first | (refine wpList_store_at rfl 45 (.tmp 8) (.tmp 45) rfl 23 info45 w8.heap.size 0 45 zeroCells (ckT.cells rv) rfl rfl (heap_alloc_at _ _) (by rw [Ck.cells_len, HD.out]) (oneCell_ck HRF8.out.one) (by simp [zeroCells, Ck.cells_len, HD.out]) ?_; intro w9 hhw9 hsw9; have hmw9 := ((Mod.refl [] w8).alloc (.cells zeroCells.toArray 45)).trans hsw9 (by simp); rw [splice_all _ _ (by simp [zeroCells, Ck.cells_len, HD.out])] at hhw9; have roww9 := Row.of_heap hhw9; have HHw9 := Lib.hid hhw9; clear hhw9; have hr9 := hr8.mod hmw9 (by simp); have c0 : w9.cell? ⟨ub, 0, none⟩ = some (.int .i64 2) := hr9 0 _ rfl; have c1 : w9.cell? ⟨ub, 1, none⟩ = some (.int .i64 1) := hr9 1 _ rfl; have c2 : w9.cell? ⟨ub, 2, none⟩ = some (.int .i64 3) := hr9 2 _ rfl) | fail)
  have hs89 := lt_of_heap HHw9.out
  have o9 := o8.step hmw9 (b := w8.heap.size) (Nat.le_refl _) hs89
  have hrf9 := HRF8.out.mod0 hmw9
  obtain ⟨kb, hkb⟩ : ∃ kb, w8.heap.size = kb := ⟨_, rfl⟩
  rw [hkb]
  rw [hkb] at o9 roww9 hs89
  have HRF9 := Lib.hid hrf9
  clear hsw9 HHw9 hmw9 hrf9 hr8 o8 HRF8 hkb
  refine (at_any _ tb mb lv7 [ckT] u0 o9.tab).mono ?_
  rintro e w10 ⟨rfl, hm10⟩
  rw [s_at]
  have hr10 := hr9.mod hm10 (by simp)
  have kr10 := roww9.mod hm10 (by simp)
  have hrf10 := HRF9.out.mod0 hm10
  have o10 := (o9.same hm10).1
  clear c0 c1 c2
  have c0 : w10.cell? ⟨ub, 0, none⟩ = some (.int .i64 2) := hr10 0 _ rfl
  have c1 : w10.cell? ⟨ub, 1, none⟩ = some (.int .i64 1) := hr10 1 _ rfl
  have c2 : w10.cell? ⟨ub, 2, none⟩ = some (.int .i64 3) := hr10 2 _ rfl
  clear hr9 roww9 HRF9 o9 hm10
  have HRF10 := Lib.hid hrf10
  clear hrf10
  go_wp2_with fail
  refine (live_any _ tb mb lv7 [ckT] 2 1 o10.tab).mono ?_
  rintro e w11 ⟨v11, rfl, hv11, hm11, hf11⟩
  rw [s_live] at hv11
  obtain ⟨a11, n11, c11, rfl⟩ := Own.isSlice hv11
  have o11 := o10.own hm11 hv11 hf11
  have hr11 := hr10.mod hm11 (by simp)
  have kr11 := kr10.mod hm11 (by simp)
  have hrf11 := HRF10.out.mod0 hm11
  obtain ⟨K, hK⟩ : ∃ K, (Value.slice a11 n11 c11).ownBlock.toList ++ [kb, ub] = K := ⟨_, rfl⟩
  rw [hK] at o11
  have hK1 : ∀ b, (Value.slice a11 n11 c11).ownBlock = some b → b ∈ K := by intro b hb; rw [← hK, hb]; simp
  have hK2 : kb ∈ K := by rw [← hK]; simp
  have hK3 : ub ∈ K := by rw [← hK]; simp
  have HV11 := Lib.hid hv11
  have HRF11 := Lib.hid hrf11
  clear c0 c1 c2 hr10 kr10 HRF10 o10 hm11 hf11 hv11 hrf11 hK
  go_wp2_with fail
  refine (count_any _ tb mb lv7 [ckT] 0 o11.tab).mono ?_
  rintro e w12 ⟨rfl, hm12⟩
  rw [s_count]
  have o12 := (o11.same hm12).1
  have hr12 := hr11.mod hm12 (by simp)
  have kr12 := kr11.mod hm12 (by simp)
  have HRF12 := Lib.hid (HRF11.out.mod0 hm12)
  have HV12 := Lib.hid (HV11.out.mod0 hm12)
  clear o11 hr11 kr11 HRF11 HV11 hm12
  go_wp2_with fail
  refine (lose_any _ tb mb lv7 [ckT] 1 o12.tab).mono ?_
  rintro e w13 hp13
  rw [s_lose] at hp13
  obtain ⟨rfl, ⟨lv13, o13⟩, k13, f13, z13⟩ := o12.op hp13
  have hr13 := k13.row hr12 hK3
  have kr13 := k13.row kr12 hK2
  have HRF13 := Lib.hid (f13 _ _ HRF12.out)
  have HV13 : Hid (Ints w13 (.slice a11 n11 c11) [1]) := Lib.hid (k13.own HV12.out hK1)
  clear o12 hr12 kr12 HRF12 HV12 hp13 k13 f13 z13
  go_wp2_with (go_at_call 25; refine (digest_any 9 _).mono ?_; rintro e w14 ⟨rfl, hm14⟩)
  have o14 := (o13.same hm14).1
  have hr14 := hr13.mod hm14 (by simp)
  have kr14 := kr13.mod hm14 (by simp)
  have HRF14 := Lib.hid (HRF13.out.mod0 hm14)
  have HV14 := Lib.hid (HV13.out.mod0 hm14)
  clear o13 hr13 kr13 HRF13 HV13 hm14
  refine (lost_any _ tb mb lv13 [ckL] (digOf 9) (by simp [digOf]) o14.tab).mono ?_
  rintro e w15 ⟨v15, rfl, hv15, hm15, hf15⟩
  rw [s_lost] at hv15
  obtain ⟨a15, n15, c15, rfl⟩ := Own.isSlice hv15
  have o15 := o14.own hm15 hv15 hf15
  have hr15 := hr14.mod hm15 (by simp)
  have kr15 := kr14.mod hm15 (by simp)
  have HRF15 := Lib.hid (HRF14.out.mod0 hm15)
  have HV15 := Lib.hid (HV14.out.mod0 hm15)
  obtain ⟨K', hK'⟩ : ∃ K', (Value.slice a15 n15 c15).ownBlock.toList ++ K = K' := ⟨_, rfl⟩
  rw [hK'] at o15
  have hK1' : ∀ b, (Value.slice a11 n11 c11).ownBlock = some b → b ∈ K' := by intro b hb; rw [← hK']; exact List.mem_append_right _ (hK1 b hb)
  have hK2' : kb ∈ K' := by rw [← hK']; exact List.mem_append_right _ hK2
  have hK3' : ub ∈ K' := by rw [← hK']; exact List.mem_append_right _ hK3
  have hK4' : ∀ b, (Value.slice a15 n15 c15).ownBlock = some b → b ∈ K' := by intro b hb; rw [← hK', hb]; simp
  have HW15 := Lib.hid hv15
  clear o14 hr14 kr14 HRF14 HV14 hm15 hf15 hv15 hK' hK1 hK2 hK3
  go_wp2_with fail
  refine (unrefer_any _ tb mb lv13 [ckL] 1 1 1 o15.tab).mono ?_
  rintro e w16 hp16
  rw [s_un1] at hp16
  obtain ⟨rfl, ⟨lv16, o16⟩, k16, f16, z16⟩ := o15.op hp16
  have hr16 := k16.row hr15 hK3'
  have kr16 := k16.row kr15 hK2'
  have HRF16 := Lib.hid (f16 _ _ HRF15.out)
  have HV16 : Hid (Ints w16 (.slice a11 n11 c11) [1]) := Lib.hid (k16.own HV15.out hK1')
  have HW16 : Hid (Ints w16 (.slice a15 n15 c15) [1]) := Lib.hid (k16.own HW15.out hK4')
  clear o15 hr15 kr15 HRF15 HV15 HW15 hp16 k16 f16 z16
  go_wp2_with fail
  refine (unrefer_any _ tb mb lv16 [ckM] 1 0 2 o16.tab).mono ?_
  rintro e w17 hp17
  rw [s_un2] at hp17
  obtain ⟨rfl, ⟨lv17, o17⟩, k17, f17, z17⟩ := o16.op hp17
  have hr17 := k17.row hr16 hK3'
  have kr17 := k17.row kr16 hK2'
  have HRF17 := Lib.hid (f17 _ _ HRF16.out)
  have HV17 : Hid (Ints w17 (.slice a11 n11 c11) [1]) := Lib.hid (k17.own HV16.out hK1')
  have HW17 : Hid (Ints w17 (.slice a15 n15 c15) [1]) := Lib.hid (k17.own HW16.out hK4')
  clear o16 hr16 kr16 HRF16 HV16 HW16 hp17 k17 f17 z17
  go_wp2_with fail
  go_cut [20] (fun s20 wx => ∃ nb : Nat, s20 = .pointer (some ⟨nb, 0, none⟩) ∧ Want w17 nb wx)
  case first =>
    have hS0 : U0 ub w17.drew := ⟨hr17 0 _ rfl, hr17 1 _ rfl, hr17 2 _ rfl⟩
    have hM0 : Mod [] w17 w17.drew := (Mod.refl _ _).drew
    have hbuild : ∀ (a : Option Addr) (n m : Nat) (w : World), (Instr.build 45 #[(0, .int .i64 1), (1, digV (digOf 9)), (2, .int .u32 7), (3, .agg #[.int .i64 2, .int .i64 1, .int .i64 3]), (5, .slice a n m)]).run Try.prog w = .ok (.agg (ckT.cells (.slice a n m)).toArray) w := fun a n m w => run_build_ck w ckT a n m rfl rfl
    refine wp_region_held_drew (S := U0 ub) (by kernel_rfl) hS0 (fun hHeld => ?_)
    refine wpAnyH_take (i := 1) (v := (.agg #[.int .i64 2, .int .i64 1, .int .i64 3])) rfl (by kernel_rfl) (by kernel_rfl) (by kernel_rfl) (fun _ _ _ h => h) (Or.inl ⟨by rfl, ?_⟩) (by assumption) ?_
    · (intro wz hSz; obtain ⟨z0, z1, z2⟩ := hSz; go_simp)
    (try simp only [Act.put, List.setIfInBounds_toArray, List.set_cons_zero, List.set_cons_succ])
    refine wpAnyH_take (i := 2) (v := (.agg #[.int .i64 0, .int .i64 2])) rfl (by kernel_rfl) (by kernel_rfl) (by kernel_rfl) (fun _ _ _ h => h) (Or.inl ⟨by rfl, ?_⟩) (by assumption) ?_
    · (intro wz hSz; go_simp)
    (try simp only [Act.put, List.setIfInBounds_toArray, List.set_cons_zero, List.set_cons_succ])
    refine wpAnyH_take (i := 3) (v := (.agg #[.int .i64 1, .int .i64 1])) rfl (by kernel_rfl) (by kernel_rfl) (by kernel_rfl) (fun _ _ _ h => h) (Or.inl ⟨by rfl, ?_⟩) (by assumption) ?_
    · (intro wz hSz; go_simp)
    (try simp only [Act.put, List.setIfInBounds_toArray, List.set_cons_zero, List.set_cons_succ])
  -- REGION 16
    refine wpAnyH_ready (rs := [0, 4, 6]) (by kernel_rfl) (by simp) ?_
    refine AllReadyH.cons (i := 0) rfl (fun K' hK => ?_) (AllReadyH.cons (i := 4) rfl (fun K' hK => ?_) (AllReadyH.cons (i := 6) rfl (fun K' hK => ?_) AllReadyH.nil))
    · go_simp
      refine (digest_any 9 _).mono ?_
      rintro e y1 ⟨rfl, hy1⟩
      go_wp2_with fail
      have hM1 : Mod [] w17 y1 := hM0.trans_nil hy1
      have hS1 := U0.mod hS0 hy1
      have hsz1 := hM1.size
      skip
      skip
      refine hK.out _ _ hS1 (fun _ => ?_)
      clear hK K'
      (try simp only [Act.put, List.setIfInBounds_toArray, List.set_cons_zero, List.set_cons_succ])
      refine wpAnyH_ready (rs := [4, 6]) (by kernel_rfl) (by simp) ?_
      refine AllReadyH.cons (i := 4) rfl (fun K' hK => ?_) (AllReadyH.cons (i := 6) rfl (fun K' hK => ?_) AllReadyH.nil)
      · go_simp
        have hy2 : Mod [] y1 ((y1).alloc (.cells #[.int .i64 0, .int .i64 2, .int .i64 1, .int .i64 1] 113)) := (Mod.refl _ _).alloc _
        have hM2 : Mod [] w17 ((y1).alloc (.cells #[.int .i64 0, .int .i64 2, .int .i64 1, .int .i64 1] 113)) := hM1.trans_nil hy2
        have hS2 := U0.mod hS1 hy2
        have hR2 : Blk1 ((y1).alloc (.cells #[.int .i64 0, .int .i64 2, .int .i64 1, .int .i64 1] 113)) (y1.heap.size) (.cells #[.int .i64 0, .int .i64 2, .int .i64 1, .int .i64 1] 113 (0, 0)) := ⟨by have e := heap_alloc_at (y1) (.cells #[.int .i64 0, .int .i64 2, .int .i64 1, .int .i64 1] 113); rw [show (y1).heap.size = y1.heap.size by simp] at e; exact e⟩
        skip
        skip
        refine hK.out _ _ hS2 (fun _ => ?_)
        clear hK K'
        (try simp only [Act.put, List.setIfInBounds_toArray, List.set_cons_zero, List.set_cons_succ])
        refine wpAnyH_take (i := 5) (oi := { dst := some 79, op := .build 45 #[(0, .const (.int .i64 1)), (1, .tmp 74), (2, .const (.int .u32 7)), (3, .tmp 75), (5, .tmp 78)], type := 45, pos := "law.go:28", after := #[{ on := 0, ground := .data }, { on := 1, ground := .data }, { on := 4, ground := .data }], guard := none }) (v := (.agg (ckT.cells (.slice (some ⟨y1.heap.size, 0, none⟩) 2 2)).toArray)) rfl (by kernel_rfl) (by kernel_rfl) (by kernel_rfl) (fun _ _ _ h => h) (yieldsIf_build_ck (by rfl) (.const (.int .i64 1)) (.tmp 74) (.const (.int .u32 7)) (.tmp 75) (.tmp 78) rfl ckT (some ⟨y1.heap.size, 0, none⟩) 2 2 rfl rfl rfl rfl rfl rfl rfl) (by assumption) ?_
        (try dsimp only)
        (try simp only [Act.put, List.setIfInBounds_toArray, List.set_cons_zero, List.set_cons_succ])
        refine wpAnyH_ready (rs := [6]) (by kernel_rfl) (by simp) ?_
        refine AllReadyH.cons (i := 6) rfl (fun K' hK => ?_) AllReadyH.nil
        · go_simp
          have hy3 : Mod [] ((y1).alloc (.cells #[.int .i64 0, .int .i64 2, .int .i64 1, .int .i64 1] 113)) ((((y1).alloc (.cells #[.int .i64 0, .int .i64 2, .int .i64 1, .int .i64 1] 113))).alloc (.cells zeroCells.toArray 45)) := (Mod.refl _ _).alloc _
          have hM3 : Mod [] w17 ((((y1).alloc (.cells #[.int .i64 0, .int .i64 2, .int .i64 1, .int .i64 1] 113))).alloc (.cells zeroCells.toArray 45)) := hM2.trans_nil hy3
          have hS3 := U0.mod hS2 hy3
          have hZ3 : Blk1 ((((y1).alloc (.cells #[.int .i64 0, .int .i64 2, .int .i64 1, .int .i64 1] 113))).alloc (.cells zeroCells.toArray 45)) (y1.heap.size + 1) (.cells zeroCells.toArray 45 (0, 0)) := ⟨by have e := heap_alloc_at (((y1).alloc (.cells #[.int .i64 0, .int .i64 2, .int .i64 1, .int .i64 1] 113))) (.cells zeroCells.toArray 45); rw [show (((y1).alloc (.cells #[.int .i64 0, .int .i64 2, .int .i64 1, .int .i64 1] 113))).heap.size = y1.heap.size + 1 by simp] at e; exact e⟩
          have hR3 := hR2.heapOf hy3
          skip
          refine hK.out _ _ hS3 (fun _ => ?_)
          clear hK K'
          (try simp only [Act.put, List.setIfInBounds_toArray, List.set_cons_zero, List.set_cons_succ])
          refine wpAnyH_ready (rs := [7]) (by kernel_rfl) (by simp) ?_
          refine AllReadyH.cons (i := 7) rfl (fun K' hK => ?_) AllReadyH.nil
          rw [if_pos (by rfl)]
          refine wp_store_at 45 (.tmp 20) (.tmp 79) rfl 23 info45 _ 0 45 zeroCells (ckT.cells (.slice (some ⟨y1.heap.size, 0, none⟩) 2 2)) rfl rfl hZ3.1 rfl (oneCell_ck rfl) (by rw [Ck.cells_len]; decide) ?_
          intro w18 hh18 hm18
          have hfin := fin16 hM3 hR3 hZ3 (by omega) hh18 hm18
          refine hK.out _ _ (U0.mod1 hS3 hZ3 hm18) (fun _ => ?_)
          clear hK K'
          (try simp only [Act.put, List.setIfInBounds_toArray, List.set_cons_zero, List.set_cons_succ])
          refine wpAnyH_done (by kernel_rfl) ?_ _
          go_wp2_with fail
          go_meet
          exact ⟨_, rfl, hfin⟩
      · go_simp
        have hy4 : Mod [] y1 ((y1).alloc (.cells zeroCells.toArray 45)) := (Mod.refl _ _).alloc _
        have hM4 : Mod [] w17 ((y1).alloc (.cells zeroCells.toArray 45)) := hM1.trans_nil hy4
        have hS4 := U0.mod hS1 hy4
        have hZ4 : Blk1 ((y1).alloc (.cells zeroCells.toArray 45)) (y1.heap.size) (.cells zeroCells.toArray 45 (0, 0)) := ⟨by have e := heap_alloc_at (y1) (.cells zeroCells.toArray 45); rw [show (y1).heap.size = y1.heap.size by simp] at e; exact e⟩
        skip
        skip
        refine hK.out _ _ hS4 (fun _ => ?_)
        clear hK K'
        (try simp only [Act.put, List.setIfInBounds_toArray, List.set_cons_zero, List.set_cons_succ])
        refine wpAnyH_ready (rs := [4]) (by kernel_rfl) (by simp) ?_
        refine AllReadyH.cons (i := 4) rfl (fun K' hK => ?_) AllReadyH.nil
        · go_simp
          have hy5 : Mod [] ((y1).alloc (.cells zeroCells.toArray 45)) ((((y1).alloc (.cells zeroCells.toArray 45))).alloc (.cells #[.int .i64 0, .int .i64 2, .int .i64 1, .int .i64 1] 113)) := (Mod.refl _ _).alloc _
          have hM5 : Mod [] w17 ((((y1).alloc (.cells zeroCells.toArray 45))).alloc (.cells #[.int .i64 0, .int .i64 2, .int .i64 1, .int .i64 1] 113)) := hM4.trans_nil hy5
          have hS5 := U0.mod hS4 hy5
          have hR5 : Blk1 ((((y1).alloc (.cells zeroCells.toArray 45))).alloc (.cells #[.int .i64 0, .int .i64 2, .int .i64 1, .int .i64 1] 113)) (y1.heap.size + 1) (.cells #[.int .i64 0, .int .i64 2, .int .i64 1, .int .i64 1] 113 (0, 0)) := ⟨by have e := heap_alloc_at (((y1).alloc (.cells zeroCells.toArray 45))) (.cells #[.int .i64 0, .int .i64 2, .int .i64 1, .int .i64 1] 113); rw [show (((y1).alloc (.cells zeroCells.toArray 45))).heap.size = y1.heap.size + 1 by simp] at e; exact e⟩
          skip
          have hZ5 := hZ4.heapOf hy5
          refine hK.out _ _ hS5 (fun _ => ?_)
          clear hK K'
          (try simp only [Act.put, List.setIfInBounds_toArray, List.set_cons_zero, List.set_cons_succ])
          refine wpAnyH_take (i := 5) (oi := { dst := some 79, op := .build 45 #[(0, .const (.int .i64 1)), (1, .tmp 74), (2, .const (.int .u32 7)), (3, .tmp 75), (5, .tmp 78)], type := 45, pos := "law.go:28", after := #[{ on := 0, ground := .data }, { on := 1, ground := .data }, { on := 4, ground := .data }], guard := none }) (v := (.agg (ckT.cells (.slice (some ⟨y1.heap.size + 1, 0, none⟩) 2 2)).toArray)) rfl (by kernel_rfl) (by kernel_rfl) (by kernel_rfl) (fun _ _ _ h => h) (yieldsIf_build_ck (by rfl) (.const (.int .i64 1)) (.tmp 74) (.const (.int .u32 7)) (.tmp 75) (.tmp 78) rfl ckT (some ⟨y1.heap.size + 1, 0, none⟩) 2 2 rfl rfl rfl rfl rfl rfl rfl) (by assumption) ?_
          (try dsimp only)
          (try simp only [Act.put, List.setIfInBounds_toArray, List.set_cons_zero, List.set_cons_succ])
          refine wpAnyH_ready (rs := [7]) (by kernel_rfl) (by simp) ?_
          refine AllReadyH.cons (i := 7) rfl (fun K' hK => ?_) AllReadyH.nil
          rw [if_pos (by rfl)]
          refine wp_store_at 45 (.tmp 20) (.tmp 79) rfl 23 info45 _ 0 45 zeroCells (ckT.cells (.slice (some ⟨y1.heap.size + 1, 0, none⟩) 2 2)) rfl rfl hZ5.1 rfl (oneCell_ck rfl) (by rw [Ck.cells_len]; decide) ?_
          intro w18 hh18 hm18
          have hfin := fin16 hM5 hR5 hZ5 (by omega) hh18 hm18
          refine hK.out _ _ (U0.mod1 hS5 hZ5 hm18) (fun _ => ?_)
          clear hK K'
          (try simp only [Act.put, List.setIfInBounds_toArray, List.set_cons_zero, List.set_cons_succ])
          refine wpAnyH_done (by kernel_rfl) ?_ _
          go_wp2_with fail
          go_meet
          exact ⟨_, rfl, hfin⟩
    · go_simp
      have hy6 : Mod [] w17.drew ((w17.drew).alloc (.cells #[.int .i64 0, .int .i64 2, .int .i64 1, .int .i64 1] 113)) := (Mod.refl _ _).alloc _
      have hM6 : Mod [] w17 ((w17.drew).alloc (.cells #[.int .i64 0, .int .i64 2, .int .i64 1, .int .i64 1] 113)) := hM0.trans_nil hy6
      have hS6 := U0.mod hS0 hy6
      have hR6 : Blk1 ((w17.drew).alloc (.cells #[.int .i64 0, .int .i64 2, .int .i64 1, .int .i64 1] 113)) (w17.heap.size) (.cells #[.int .i64 0, .int .i64 2, .int .i64 1, .int .i64 1] 113 (0, 0)) := ⟨by have e := heap_alloc_at (w17.drew) (.cells #[.int .i64 0, .int .i64 2, .int .i64 1, .int .i64 1] 113); rw [show (w17.drew).heap.size = w17.heap.size by simp] at e; exact e⟩
      skip
      skip
      refine hK.out _ _ hS6 (fun _ => ?_)
      clear hK K'
      (try simp only [Act.put, List.setIfInBounds_toArray, List.set_cons_zero, List.set_cons_succ])
      refine wpAnyH_ready (rs := [0, 6]) (by kernel_rfl) (by simp) ?_
      refine AllReadyH.cons (i := 0) rfl (fun K' hK => ?_) (AllReadyH.cons (i := 6) rfl (fun K' hK => ?_) AllReadyH.nil)
      · go_simp
        refine (digest_any 9 _).mono ?_
        rintro e y7 ⟨rfl, hy7⟩
        go_wp2_with fail
        have hM7 : Mod [] w17 y7 := hM6.trans_nil hy7
        have hS7 := U0.mod hS6 hy7
        have hsz7 := hM7.size
        have hR7 := hR6.heapOf hy7
        skip
        refine hK.out _ _ hS7 (fun _ => ?_)
        clear hK K'
        (try simp only [Act.put, List.setIfInBounds_toArray, List.set_cons_zero, List.set_cons_succ])
        refine wpAnyH_take (i := 5) (oi := { dst := some 79, op := .build 45 #[(0, .const (.int .i64 1)), (1, .tmp 74), (2, .const (.int .u32 7)), (3, .tmp 75), (5, .tmp 78)], type := 45, pos := "law.go:28", after := #[{ on := 0, ground := .data }, { on := 1, ground := .data }, { on := 4, ground := .data }], guard := none }) (v := (.agg (ckT.cells (.slice (some ⟨w17.heap.size, 0, none⟩) 2 2)).toArray)) rfl (by kernel_rfl) (by kernel_rfl) (by kernel_rfl) (fun _ _ _ h => h) (yieldsIf_build_ck (by rfl) (.const (.int .i64 1)) (.tmp 74) (.const (.int .u32 7)) (.tmp 75) (.tmp 78) rfl ckT (some ⟨w17.heap.size, 0, none⟩) 2 2 rfl rfl rfl rfl rfl rfl rfl) (by assumption) ?_
        (try dsimp only)
        (try simp only [Act.put, List.setIfInBounds_toArray, List.set_cons_zero, List.set_cons_succ])
        refine wpAnyH_ready (rs := [6]) (by kernel_rfl) (by simp) ?_
        refine AllReadyH.cons (i := 6) rfl (fun K' hK => ?_) AllReadyH.nil
        · go_simp
          have hy8 : Mod [] y7 ((y7).alloc (.cells zeroCells.toArray 45)) := (Mod.refl _ _).alloc _
          have hM8 : Mod [] w17 ((y7).alloc (.cells zeroCells.toArray 45)) := hM7.trans_nil hy8
          have hS8 := U0.mod hS7 hy8
          have hZ8 : Blk1 ((y7).alloc (.cells zeroCells.toArray 45)) (y7.heap.size) (.cells zeroCells.toArray 45 (0, 0)) := ⟨by have e := heap_alloc_at (y7) (.cells zeroCells.toArray 45); rw [show (y7).heap.size = y7.heap.size by simp] at e; exact e⟩
          have hR8 := hR7.heapOf hy8
          skip
          refine hK.out _ _ hS8 (fun _ => ?_)
          clear hK K'
          (try simp only [Act.put, List.setIfInBounds_toArray, List.set_cons_zero, List.set_cons_succ])
          refine wpAnyH_ready (rs := [7]) (by kernel_rfl) (by simp) ?_
          refine AllReadyH.cons (i := 7) rfl (fun K' hK => ?_) AllReadyH.nil
          rw [if_pos (by rfl)]
          refine wp_store_at 45 (.tmp 20) (.tmp 79) rfl 23 info45 _ 0 45 zeroCells (ckT.cells (.slice (some ⟨w17.heap.size, 0, none⟩) 2 2)) rfl rfl hZ8.1 rfl (oneCell_ck rfl) (by rw [Ck.cells_len]; decide) ?_
          intro w18 hh18 hm18
          have hfin := fin16 hM8 hR8 hZ8 (by omega) hh18 hm18
          refine hK.out _ _ (U0.mod1 hS8 hZ8 hm18) (fun _ => ?_)
          clear hK K'
          (try simp only [Act.put, List.setIfInBounds_toArray, List.set_cons_zero, List.set_cons_succ])
          refine wpAnyH_done (by kernel_rfl) ?_ _
          go_wp2_with fail
          go_meet
          exact ⟨_, rfl, hfin⟩
      · go_simp
        have hy9 : Mod [] ((w17.drew).alloc (.cells #[.int .i64 0, .int .i64 2, .int .i64 1, .int .i64 1] 113)) ((((w17.drew).alloc (.cells #[.int .i64 0, .int .i64 2, .int .i64 1, .int .i64 1] 113))).alloc (.cells zeroCells.toArray 45)) := (Mod.refl _ _).alloc _
        have hM9 : Mod [] w17 ((((w17.drew).alloc (.cells #[.int .i64 0, .int .i64 2, .int .i64 1, .int .i64 1] 113))).alloc (.cells zeroCells.toArray 45)) := hM6.trans_nil hy9
        have hS9 := U0.mod hS6 hy9
        have hZ9 : Blk1 ((((w17.drew).alloc (.cells #[.int .i64 0, .int .i64 2, .int .i64 1, .int .i64 1] 113))).alloc (.cells zeroCells.toArray 45)) (w17.heap.size + 1) (.cells zeroCells.toArray 45 (0, 0)) := ⟨by have e := heap_alloc_at (((w17.drew).alloc (.cells #[.int .i64 0, .int .i64 2, .int .i64 1, .int .i64 1] 113))) (.cells zeroCells.toArray 45); rw [show (((w17.drew).alloc (.cells #[.int .i64 0, .int .i64 2, .int .i64 1, .int .i64 1] 113))).heap.size = w17.heap.size + 1 by simp] at e; exact e⟩
        have hR9 := hR6.heapOf hy9
        skip
        refine hK.out _ _ hS9 (fun _ => ?_)
        clear hK K'
        (try simp only [Act.put, List.setIfInBounds_toArray, List.set_cons_zero, List.set_cons_succ])
        refine wpAnyH_ready (rs := [0]) (by kernel_rfl) (by simp) ?_
        refine AllReadyH.cons (i := 0) rfl (fun K' hK => ?_) AllReadyH.nil
        · go_simp
          refine (digest_any 9 _).mono ?_
          rintro e y10 ⟨rfl, hy10⟩
          go_wp2_with fail
          have hM10 : Mod [] w17 y10 := hM9.trans_nil hy10
          have hS10 := U0.mod hS9 hy10
          have hsz10 := hM10.size
          have hR10 := hR9.heapOf hy10
          have hZ10 := hZ9.heapOf hy10
          refine hK.out _ _ hS10 (fun _ => ?_)
          clear hK K'
          (try simp only [Act.put, List.setIfInBounds_toArray, List.set_cons_zero, List.set_cons_succ])
          refine wpAnyH_take (i := 5) (oi := { dst := some 79, op := .build 45 #[(0, .const (.int .i64 1)), (1, .tmp 74), (2, .const (.int .u32 7)), (3, .tmp 75), (5, .tmp 78)], type := 45, pos := "law.go:28", after := #[{ on := 0, ground := .data }, { on := 1, ground := .data }, { on := 4, ground := .data }], guard := none }) (v := (.agg (ckT.cells (.slice (some ⟨w17.heap.size, 0, none⟩) 2 2)).toArray)) rfl (by kernel_rfl) (by kernel_rfl) (by kernel_rfl) (fun _ _ _ h => h) (yieldsIf_build_ck (by rfl) (.const (.int .i64 1)) (.tmp 74) (.const (.int .u32 7)) (.tmp 75) (.tmp 78) rfl ckT (some ⟨w17.heap.size, 0, none⟩) 2 2 rfl rfl rfl rfl rfl rfl rfl) (by assumption) ?_
          (try dsimp only)
          (try simp only [Act.put, List.setIfInBounds_toArray, List.set_cons_zero, List.set_cons_succ])
          refine wpAnyH_ready (rs := [7]) (by kernel_rfl) (by simp) ?_
          refine AllReadyH.cons (i := 7) rfl (fun K' hK => ?_) AllReadyH.nil
          rw [if_pos (by rfl)]
          refine wp_store_at 45 (.tmp 20) (.tmp 79) rfl 23 info45 _ 0 45 zeroCells (ckT.cells (.slice (some ⟨w17.heap.size, 0, none⟩) 2 2)) rfl rfl hZ10.1 rfl (oneCell_ck rfl) (by rw [Ck.cells_len]; decide) ?_
          intro w18 hh18 hm18
          have hfin := fin16 hM10 hR10 hZ10 (by omega) hh18 hm18
          refine hK.out _ _ (U0.mod1 hS10 hZ10 hm18) (fun _ => ?_)
          clear hK K'
          (try simp only [Act.put, List.setIfInBounds_toArray, List.set_cons_zero, List.set_cons_succ])
          refine wpAnyH_done (by kernel_rfl) ?_ _
          go_wp2_with fail
          go_meet
          exact ⟨_, rfl, hfin⟩
    · go_simp
      have hy11 : Mod [] w17.drew ((w17.drew).alloc (.cells zeroCells.toArray 45)) := (Mod.refl _ _).alloc _
      have hM11 : Mod [] w17 ((w17.drew).alloc (.cells zeroCells.toArray 45)) := hM0.trans_nil hy11
      have hS11 := U0.mod hS0 hy11
      have hZ11 : Blk1 ((w17.drew).alloc (.cells zeroCells.toArray 45)) (w17.heap.size) (.cells zeroCells.toArray 45 (0, 0)) := ⟨by have e := heap_alloc_at (w17.drew) (.cells zeroCells.toArray 45); rw [show (w17.drew).heap.size = w17.heap.size by simp] at e; exact e⟩
      skip
      skip
      refine hK.out _ _ hS11 (fun _ => ?_)
      clear hK K'
      (try simp only [Act.put, List.setIfInBounds_toArray, List.set_cons_zero, List.set_cons_succ])
      refine wpAnyH_ready (rs := [0, 4]) (by kernel_rfl) (by simp) ?_
      refine AllReadyH.cons (i := 0) rfl (fun K' hK => ?_) (AllReadyH.cons (i := 4) rfl (fun K' hK => ?_) AllReadyH.nil)
      · go_simp
        refine (digest_any 9 _).mono ?_
        rintro e y12 ⟨rfl, hy12⟩
        go_wp2_with fail
        have hM12 : Mod [] w17 y12 := hM11.trans_nil hy12
        have hS12 := U0.mod hS11 hy12
        have hsz12 := hM12.size
        skip
        have hZ12 := hZ11.heapOf hy12
        refine hK.out _ _ hS12 (fun _ => ?_)
        clear hK K'
        (try simp only [Act.put, List.setIfInBounds_toArray, List.set_cons_zero, List.set_cons_succ])
        refine wpAnyH_ready (rs := [4]) (by kernel_rfl) (by simp) ?_
        refine AllReadyH.cons (i := 4) rfl (fun K' hK => ?_) AllReadyH.nil
        · go_simp
          have hy13 : Mod [] y12 ((y12).alloc (.cells #[.int .i64 0, .int .i64 2, .int .i64 1, .int .i64 1] 113)) := (Mod.refl _ _).alloc _
          have hM13 : Mod [] w17 ((y12).alloc (.cells #[.int .i64 0, .int .i64 2, .int .i64 1, .int .i64 1] 113)) := hM12.trans_nil hy13
          have hS13 := U0.mod hS12 hy13
          have hR13 : Blk1 ((y12).alloc (.cells #[.int .i64 0, .int .i64 2, .int .i64 1, .int .i64 1] 113)) (y12.heap.size) (.cells #[.int .i64 0, .int .i64 2, .int .i64 1, .int .i64 1] 113 (0, 0)) := ⟨by have e := heap_alloc_at (y12) (.cells #[.int .i64 0, .int .i64 2, .int .i64 1, .int .i64 1] 113); rw [show (y12).heap.size = y12.heap.size by simp] at e; exact e⟩
          skip
          have hZ13 := hZ12.heapOf hy13
          refine hK.out _ _ hS13 (fun _ => ?_)
          clear hK K'
          (try simp only [Act.put, List.setIfInBounds_toArray, List.set_cons_zero, List.set_cons_succ])
          refine wpAnyH_take (i := 5) (oi := { dst := some 79, op := .build 45 #[(0, .const (.int .i64 1)), (1, .tmp 74), (2, .const (.int .u32 7)), (3, .tmp 75), (5, .tmp 78)], type := 45, pos := "law.go:28", after := #[{ on := 0, ground := .data }, { on := 1, ground := .data }, { on := 4, ground := .data }], guard := none }) (v := (.agg (ckT.cells (.slice (some ⟨y12.heap.size, 0, none⟩) 2 2)).toArray)) rfl (by kernel_rfl) (by kernel_rfl) (by kernel_rfl) (fun _ _ _ h => h) (yieldsIf_build_ck (by rfl) (.const (.int .i64 1)) (.tmp 74) (.const (.int .u32 7)) (.tmp 75) (.tmp 78) rfl ckT (some ⟨y12.heap.size, 0, none⟩) 2 2 rfl rfl rfl rfl rfl rfl rfl) (by assumption) ?_
          (try dsimp only)
          (try simp only [Act.put, List.setIfInBounds_toArray, List.set_cons_zero, List.set_cons_succ])
          refine wpAnyH_ready (rs := [7]) (by kernel_rfl) (by simp) ?_
          refine AllReadyH.cons (i := 7) rfl (fun K' hK => ?_) AllReadyH.nil
          rw [if_pos (by rfl)]
          refine wp_store_at 45 (.tmp 20) (.tmp 79) rfl 23 info45 _ 0 45 zeroCells (ckT.cells (.slice (some ⟨y12.heap.size, 0, none⟩) 2 2)) rfl rfl hZ13.1 rfl (oneCell_ck rfl) (by rw [Ck.cells_len]; decide) ?_
          intro w18 hh18 hm18
          have hfin := fin16 hM13 hR13 hZ13 (by omega) hh18 hm18
          refine hK.out _ _ (U0.mod1 hS13 hZ13 hm18) (fun _ => ?_)
          clear hK K'
          (try simp only [Act.put, List.setIfInBounds_toArray, List.set_cons_zero, List.set_cons_succ])
          refine wpAnyH_done (by kernel_rfl) ?_ _
          go_wp2_with fail
          go_meet
          exact ⟨_, rfl, hfin⟩
      · go_simp
        have hy14 : Mod [] ((w17.drew).alloc (.cells zeroCells.toArray 45)) ((((w17.drew).alloc (.cells zeroCells.toArray 45))).alloc (.cells #[.int .i64 0, .int .i64 2, .int .i64 1, .int .i64 1] 113)) := (Mod.refl _ _).alloc _
        have hM14 : Mod [] w17 ((((w17.drew).alloc (.cells zeroCells.toArray 45))).alloc (.cells #[.int .i64 0, .int .i64 2, .int .i64 1, .int .i64 1] 113)) := hM11.trans_nil hy14
        have hS14 := U0.mod hS11 hy14
        have hR14 : Blk1 ((((w17.drew).alloc (.cells zeroCells.toArray 45))).alloc (.cells #[.int .i64 0, .int .i64 2, .int .i64 1, .int .i64 1] 113)) (w17.heap.size + 1) (.cells #[.int .i64 0, .int .i64 2, .int .i64 1, .int .i64 1] 113 (0, 0)) := ⟨by have e := heap_alloc_at (((w17.drew).alloc (.cells zeroCells.toArray 45))) (.cells #[.int .i64 0, .int .i64 2, .int .i64 1, .int .i64 1] 113); rw [show (((w17.drew).alloc (.cells zeroCells.toArray 45))).heap.size = w17.heap.size + 1 by simp] at e; exact e⟩
        skip
        have hZ14 := hZ11.heapOf hy14
        refine hK.out _ _ hS14 (fun _ => ?_)
        clear hK K'
        (try simp only [Act.put, List.setIfInBounds_toArray, List.set_cons_zero, List.set_cons_succ])
        refine wpAnyH_ready (rs := [0]) (by kernel_rfl) (by simp) ?_
        refine AllReadyH.cons (i := 0) rfl (fun K' hK => ?_) AllReadyH.nil
        · go_simp
          refine (digest_any 9 _).mono ?_
          rintro e y15 ⟨rfl, hy15⟩
          go_wp2_with fail
          have hM15 : Mod [] w17 y15 := hM14.trans_nil hy15
          have hS15 := U0.mod hS14 hy15
          have hsz15 := hM15.size
          have hR15 := hR14.heapOf hy15
          have hZ15 := hZ14.heapOf hy15
          refine hK.out _ _ hS15 (fun _ => ?_)
          clear hK K'
          (try simp only [Act.put, List.setIfInBounds_toArray, List.set_cons_zero, List.set_cons_succ])
          refine wpAnyH_take (i := 5) (oi := { dst := some 79, op := .build 45 #[(0, .const (.int .i64 1)), (1, .tmp 74), (2, .const (.int .u32 7)), (3, .tmp 75), (5, .tmp 78)], type := 45, pos := "law.go:28", after := #[{ on := 0, ground := .data }, { on := 1, ground := .data }, { on := 4, ground := .data }], guard := none }) (v := (.agg (ckT.cells (.slice (some ⟨w17.heap.size + 1, 0, none⟩) 2 2)).toArray)) rfl (by kernel_rfl) (by kernel_rfl) (by kernel_rfl) (fun _ _ _ h => h) (yieldsIf_build_ck (by rfl) (.const (.int .i64 1)) (.tmp 74) (.const (.int .u32 7)) (.tmp 75) (.tmp 78) rfl ckT (some ⟨w17.heap.size + 1, 0, none⟩) 2 2 rfl rfl rfl rfl rfl rfl rfl) (by assumption) ?_
          (try dsimp only)
          (try simp only [Act.put, List.setIfInBounds_toArray, List.set_cons_zero, List.set_cons_succ])
          refine wpAnyH_ready (rs := [7]) (by kernel_rfl) (by simp) ?_
          refine AllReadyH.cons (i := 7) rfl (fun K' hK => ?_) AllReadyH.nil
          rw [if_pos (by rfl)]
          refine wp_store_at 45 (.tmp 20) (.tmp 79) rfl 23 info45 _ 0 45 zeroCells (ckT.cells (.slice (some ⟨w17.heap.size + 1, 0, none⟩) 2 2)) rfl rfl hZ15.1 rfl (oneCell_ck rfl) (by rw [Ck.cells_len]; decide) ?_
          intro w18 hh18 hm18
          have hfin := fin16 hM15 hR15 hZ15 (by omega) hh18 hm18
          refine hK.out _ _ (U0.mod1 hS15 hZ15 hm18) (fun _ => ?_)
          clear hK K'
          (try simp only [Act.put, List.setIfInBounds_toArray, List.set_cons_zero, List.set_cons_succ])
          refine wpAnyH_done (by kernel_rfl) ?_ _
          go_wp2_with fail
          go_meet
          exact ⟨_, rfl, hfin⟩
  -- END 16
  case rest =>
    obtain ⟨nb, rfl, rvn, hnb, hrn, hmc⟩ := hcut
    have kr := kr17.mod hmc (by simp)
    have nr := Row.of_heap hnb
    have hl1 : (ckT.cells rv).length = 23 := by rw [Ck.cells_len]; rfl
    have hl2 : (ckT.cells rvn).length = 23 := by rw [Ck.cells_len]; rfl
    have HRFc := Lib.hid (HRF17.out.mod0 hmc)
    have HVc := Lib.hid (HV17.out.mod0 hmc)
    have HWc := Lib.hid (HW17.out.mod0 hmc)
    have oc := (o17.same hmc).1
    have HRN := Lib.hid hrn
    have HL1 := Lib.hid hl1
    have HL2 := Lib.hid hl2
    clear o17 hr17 kr17 HRF17 HV17 HW17 hmc hnb hrn hl1 hl2
    go_upto_region 17 with fail
    refine wp_region_lit ?_
    simp only [List.append_eq, List.cons_append, List.nil_append]
    go_wp2_with (first | ((with_reducible refine wpList_load_o 45 (.tmp 8) ?_ ?_ _ Try.underlying45 ?_ 23 info45 kb 0 (ckT.cells rv) ?_ kr HL1.out ?_); (· rfl); (· rfl); (· rfl); (· rfl)) | ((with_reducible refine wpList_load_o 45 (.tmp 20) ?_ ?_ _ Try.underlying45 ?_ 23 info45 nb 0 (ckT.cells rvn) ?_ nr HL2.out ?_); (· rfl); (· rfl); (· rfl); (· rfl)) | fail)
    refine (sameChunk_any wc ckT ckT rv rvn rfl rfl HRFc.out HRN.out).mono ?_
    rintro e w19 ⟨rfl, hm19⟩
    rw [decide_eq_true rfl]
    have o19 := (oc.same hm19).1
    have HV19 := Lib.hid (HVc.out.mod0 hm19)
    have HW19 := Lib.hid (HWc.out.mod0 hm19)
    clear HRFc HRN oc HVc HWc hm19 kr nr HL1 HL2
    go_wp2_with fail
    refine (same_any _ _ _ [1] [1] (HV19.out.mod0 ((Mod.refl [] w19).alloc _)) Own.one1).mono ?_
    rintro e w20 ⟨rfl, hm20'⟩
    have hm20 := ((Mod.refl [] w19).alloc _).trans_nil hm20'
    rw [decide_eq_true rfl]
    have o20 := (o19.same hm20).1
    have HW20 := Lib.hid (HW19.out.mod0 hm20)
    clear o19 HV19 HW19 hm20 hm20'
    go_wp2_with fail
    refine (same_any _ _ _ [1] [1] (HW20.out.mod0 ((Mod.refl [] w20).alloc _)) Own.one1).mono ?_
    rintro e w21 ⟨rfl, hm21'⟩
    have hm21 := ((Mod.refl [] w20).alloc _).trans_nil hm21'
    rw [decide_eq_true rfl]
    have o21 := (o20.same hm21).1
    clear o20 HW20 hm21 hm21'
    go_wp2_with fail
    refine (len_any _ tb mb lv17 [] o21.tab).mono ?_
    rintro e w22 ⟨rfl, rfl⟩
    go_wp2_with fail
    refine (encode_any _ tb mb lv17 [] o21.tab (fun c hc => by simp at hc)).mono ?_
    rintro e w23 ⟨v23, rfl, hv23, hm23, _⟩
    rw [s_enc] at hv23
    obtain ⟨a23, c23, rfl⟩ : ∃ a c, v23 = .slice a 1 c := by
      have hv : Own w23 5 1 v23 [[Value.int .u8 128]] := hv23
      rcases hv.shape with ⟨_, h⟩ | ⟨b, cap, cur, h, _⟩
      · cases h
      · exact ⟨_, _, h⟩
    have hmf := o21.mod.trans_nil hm23
    clear hv23 o21 hm23
    go_wp2_with fail
    go_ret
    exact ⟨rfl, hmf⟩

end Go.Proofs.Ytknkifanpppglaa
