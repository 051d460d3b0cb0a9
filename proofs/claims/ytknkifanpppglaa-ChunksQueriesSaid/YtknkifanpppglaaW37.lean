/- The law ChunksHeal returns true for every script, Id and unit: the walk. -/
import Derived.Test.YtknkifanpppglaaHeal
import Derived.Test.YtknkifanpppglaaMF
namespace Go.Proofs.Ytknkifanpppglaa
open Go.RowKit

theorem unit_alloc {w wu : World} {u : U3} (h : wu = w.alloc (.cells #[.int .i64 u.row, .int .i64 u.group, .int .i64 u.unit] 26)) : Mod [] w wu ∧ Row wu w.heap.size 0 u.cells ∧ w.heap.size < wu.heap.size := by
  subst h
  exact ⟨(Mod.refl _ _).alloc _, Row.of_heap (heap_alloc_at w _), by simp⟩

theorem ids_of {w : World} {v : Value} {l : List Ck} (h : Ints w v (l.map (·.id))) : ∃ a c, v = .slice a l.length c ∧ ∀ k x, (l.map (·.id))[k]? = some x → ∃ b, a = some ⟨b, 0, none⟩ ∧ b < w.heap.size ∧ w.cell? ⟨b, k, none⟩ = some (.int .i64 x) := by
  rcases h.shape with ⟨rfl, h2⟩ | ⟨b, cap, rfl, hb, _, _, h2⟩
  · have : l = [] := by simpa using h2
    subst this
    exact ⟨_, _, rfl, fun k x hk => by simp at hk⟩
  · exact ⟨_, _, by rw [List.length_map], fun k x hk => ⟨b, rfl, hb, h2 k x hk⟩⟩

theorem eql_unit (u v : U3) (w : World) : (binOp .eql 26 (.agg #[.int .i64 u.row, .int .i64 u.group, .int .i64 u.unit]) (.agg #[.int .i64 v.row, .int .i64 v.group, .int .i64 v.unit])).run Try.prog w = .ok (.bool (decide (u = v))) w := by
  have h := equal_unit u v w
  simp only [binOp]
  unfold U3.val at h
  simp [h]

set_option maxRecDepth 100000 in
set_option maxHeartbeats 4000000 in
theorem heal_any (w : World) (sv : Value) (s : List Opn) (h : ScriptAt w sv s) (id : Int) (u : U3) :
    Calls Try.prog 7 #[sv, .int .i64 id, .agg #[.int .i64 u.row, .int .i64 u.group, .int .i64 u.unit]] w (BoolPost true w) := by
  have HS := Lib.hid h
  clear h
  go_enter Try.func7, Try.ntmps7
  go_wp2_with fail
  obtain ⟨wu, hwu⟩ : ∃ wu, wu = w.alloc (.cells #[.int .i64 u.row, .int .i64 u.group, .int .i64 u.unit] 26) := ⟨_, rfl⟩
  obtain ⟨hmu, hru, hltu⟩ := unit_alloc hwu
  rw [← hwu]
  clear hwu
  refine (build_any _ sv s (HS.out.mod0 hmu)).mono ?_
  rintro e w1 hb
  rcases hb with ⟨_, rfl, hm1⟩ | ⟨_, tb, mb, lv, rfl, o1⟩
  · go_wp2_with (go_at_call 14; refine (sanity_any _).mono ?_; rintro e w2 ⟨rfl, hm2⟩)
    go_ret
    exact ⟨rfl, (hmu.trans_nil hm1).trans_nil hm2⟩
  · obtain ⟨l, hl0⟩ : ∃ l, opsL [] s = l := ⟨_, rfl⟩
    rw [hl0] at o1
    clear hl0
    have hru1 := hru.mod o1.mod (by simp)
    go_wp2_with fail
    refine (get_any _ tb mb lv l id o1.tab).mono ?_
    rintro e w2 ⟨hm2, hg⟩
    have o2 := (o1.same hm2).1
    have hru2 := hru1.mod hm2 (by simp)
    clear o1 hru hru1 hm2
    rcases hg with ⟨hg, rfl⟩ | ⟨c, rv, hg, hd, rfl, hrf, _⟩
    · have hdz : zeroCk.dig.length = 16 := rfl
      have hnil : nilV.oneCell' = true := rfl
      go_wp2_with (first | (refine wpList_store_at rfl 45 (.tmp 9) (.tmp 36) rfl 23 info45 w2.heap.size 0 45 zeroCells (zeroCk.cells nilV) rfl rfl (heap_alloc_at _ _) (by rw [Ck.cells_len, hdz]) (oneCell_ck hnil) (by simp [zeroCells, Ck.cells_len, hdz]) ?_; intro w3 hhw3 hsw3; have hmw3 := ((Mod.refl [] w2).alloc (.cells zeroCells.toArray 45)).trans hsw3 (by simp); rw [splice_all _ _ (by simp [zeroCells, Ck.cells_len, hdz])] at hhw3; have roww3 := Row.of_heap hhw3; have HHw3 := Lib.hid hhw3; clear hhw3; have hru3 := hru2.mod hmw3 (by simp)) | (refine wpList_load_at rfl 26 (.tmp 5) rfl _ Try.underlying26 rfl 3 info26 w.heap.size 0 u.cells rfl hru3 rfl ?_))
      refine (at_any _ tb mb lv l u (o2.same hmw3).1.tab).mono ?_
      rintro e w4 ⟨rfl, hm4⟩
      go_wp2_with (go_at_call 14; refine (sanity_any _).mono ?_; rintro e w5 ⟨rfl, hm5⟩)
      go_ret
      exact ⟨rfl, (hmu.trans_nil o2.mod).trans_nil ((hmw3.trans_nil hm4).trans_nil hm5)⟩
    · obtain ⟨a', cap', rfl⟩ := hrf.sliceLen
      have hone : (Value.slice a' c.refs.length cap').oneCell' = true := rfl
      have HD := Lib.hid hd
      have HG := Lib.hid hg
      clear hd hg
      go_wp2_with (first | (refine wpList_store_at rfl 45 (.tmp 9) (.tmp 36) rfl 23 info45 w2.heap.size 0 45 zeroCells (c.cells (.slice a' c.refs.length cap')) rfl rfl (heap_alloc_at _ _) (by rw [Ck.cells_len, HD.out]) (oneCell_ck hone) (by simp [zeroCells, Ck.cells_len, HD.out]) ?_; intro w3 hhw3 hsw3; have hmw3 := ((Mod.refl [] w2).alloc (.cells zeroCells.toArray 45)).trans hsw3 (by simp); rw [splice_all _ _ (by simp [zeroCells, Ck.cells_len, HD.out])] at hhw3; have roww3 := Row.of_heap hhw3; have HHw3 := Lib.hid hhw3; clear hhw3; have hru3 := hru2.mod hmw3 (by simp)) | (refine wpList_load_at rfl 26 (.tmp 5) rfl _ Try.underlying26 rfl 3 info26 w.heap.size 0 u.cells rfl hru3 rfl ?_))
      refine (at_any _ tb mb lv l u (o2.same hmw3).1.tab).mono ?_
      rintro e w4 ⟨rfl, hm4⟩
      have hmt4 : Mod [] w2 w4 := hmw3.trans_nil hm4
      cases hat : atU l u with
      | some j =>
        have HAt := Lib.hid hat
        clear hat
        simp only [Option.isSome_some, Option.getD_some]
        go_wp2_with (go_at_call 14; refine (sanity_any _).mono ?_; rintro e w5 ⟨rfl, hm5⟩)
        go_ret
        exact ⟨rfl, (hmu.trans_nil o2.mod).trans_nil (hmt4.trans_nil hm5)⟩
      | none =>
        have HAt := Lib.hid hat
        clear hat
        simp only [Option.isSome_none, Option.getD_none]
        have hru4 := hru3.mod hm4 (by simp)
        go_wp2_with ((refine wpList_load_at rfl 26 (.tmp 5) rfl _ Try.underlying26 rfl 3 info26 w.heap.size 0 u.cells rfl hru4 rfl ?_))
        refine (rvalid_any u _).mono ?_
        rintro e w5 ⟨rfl, hm5⟩
        have hru5 := hru4.mod hm5 (by simp)
        have hmt5 : Mod [] w2 w5 := hmt4.trans_nil hm5
        cases hok : u.ok with
        | false =>
          go_wp2_with (go_at_call 14; refine (sanity_any _).mono ?_; rintro e w6 ⟨rfl, hm6⟩)
          go_ret
          exact ⟨rfl, (hmu.trans_nil o2.mod).trans_nil (hmt5.trans_nil hm6)⟩
        | true =>
          have HOk := Lib.hid hok
          have o5 := (o2.same hmt5).1
          obtain ⟨k0, hk0, hid0, hlose, hinv1, hmove, hget1, hinv2⟩ := heal_plain o5.inv HG.out HOk.out HAt.out
          have hc5 := hm5.heap (hm4.heap HHw3.out (by simp)) (by simp)
          have hr5 := hrf.mod0 hmt5
          have hsz2 := o2.mod.size
          have hsz5 := hmt5.size
          subst hid0
          obtain ⟨cL, hcL⟩ : ∃ d : Ck, { c with pos := zeroU, lost := true } = d := ⟨_, rfl⟩
          obtain ⟨cM, hcM⟩ : ∃ d : Ck, { c with pos := u, lost := false } = d := ⟨_, rfl⟩
          rw [hcL] at hlose hinv1 hmove hget1
          rw [hcM] at hmove hinv2
          obtain ⟨l1, hl1⟩ : ∃ l1, l.set k0 cL = l1 := ⟨_, rfl⟩
          obtain ⟨l2, hl2⟩ : ∃ l2, l.set k0 cM = l2 := ⟨_, rfl⟩
          have hll2 : l2.length = l.length := by rw [← hl2]; simp
          rw [hl1] at hlose hmove hget1 hinv1
          rw [hl2] at hmove hinv2
          have hLp : cL.pos = zeroU := by rw [← hcL]
          have hLl : cL.lost = true := by rw [← hcL]
          have hMr : cM.refs = c.refs := by rw [← hcM]
          have hMi : cM.id = c.id := by rw [← hcM]
          have hMd : cM.dig.length = 16 := by rw [← hcM]; exact HD.out
          have hMc : ∀ rv, splice (splice (c.cells rv) 18 u.cells) 21 [.bool false] = cM.cells rv := by
            intro rv
            rw [Ck.splicePos HD.out, Ck.spliceLost (c := { c with pos := u }) HD.out, ← hcM]
          have HLp := Lib.hid hLp
          have HLl := Lib.hid hLl
          have HMr := Lib.hid hMr
          have HMi := Lib.hid hMi
          have HMd := Lib.hid hMd
          have HMc := Lib.hid hMc
          have HL2 := Lib.hid hl2
          have HInv2 := Lib.hid hinv2
          have HLen2 := Lib.hid hll2
          clear hLp hLl hMr hMi hMd hMc hl2 hll2 hcL hcM hl1
          obtain ⟨wm, hwm⟩ : ∃ wm, wm = w5.alloc (.map #[] 0) := ⟨_, rfl⟩
          have hmm5 : Mod [] w5 wm := by rw [hwm]; exact (Mod.refl _ _).alloc _
          have hst : HealSt wu wm tb mb lv l w.heap.size w2.heap.size w5.heap.size u c (.slice a' c.refs.length cap') [] := by
            have ho := (o5.same hmm5).1
            have hlt3 : w2.heap.size < w5.heap.size := lt_of_heap hc5
            have hsm := hmm5.size
            have hold : OldIs wm w5.heap.size [] := by rw [hwm]; exact OldIs.start w5
            have hfl := foot_lt o2.tab
            have hf0 : ∀ x ∈ foot tb mb lv, wu.heap.size ≤ x := by
              intro x hx
              simp only [foot, List.mem_cons, Option.mem_toList] at hx
              rcases hx with rfl | rfl | hx
              · exact o2.tb0
              · exact o2.mb0
              · exact o2.lv0 x hx
            refine ⟨⟨ho.tab, ho.mod, ho.tb0, ho.mb0, ho.lv0, ?_⟩, hru5.mod hmm5 (by simp), hmm5.heap hc5 (by simp), hr5.mod0 hmm5, hold, by omega, by omega, by omega, by omega, by omega⟩
            intro b hb
            simp only [List.mem_cons, List.not_mem_nil, or_false] at hb
            have hltm := hold.lt
            rcases hb with rfl | rfl | rfl
            · exact ⟨fun hx => by have := hf0 _ hx; omega, by omega⟩
            · exact ⟨fun hx => by have := hfl _ hx; omega, by omega⟩
            · exact ⟨fun hx => by have := hfl _ hx; omega, by omega⟩
          have HSt := Lib.hid hst
          have HK0 := Lib.hid hk0
          have HLose := Lib.hid hlose
          have HMove := Lib.hid hmove
          have HGet1 := Lib.hid hget1
          have hmwu : Mod [] w wu := hmu
          clear hok hk0 hlose hmove hget1 hst hc5 hr5 hru2 hru3 hru4 hru5 HHw3 roww3 hsw3 hmw3 hm4 hm5 hmt4 hmt5 o2 o5 hsz2 hsz5 hinv1 hinv2 hrf
          have hmk : ∀ w : World, (Instr.makeMap 65 none).run Try.prog w = .ok (.map (some w.heap.size)) (w.alloc (.map #[] 0)) := fun _ => rfl
          go_wp2_with fail
          clear hmk
          rw [← hwm]
          clear hwm
          refine (ids_any _ tb mb lv l HSt.out.ot.tab).mono ?_
          rintro e w6 ⟨vi, rfl, hvi, hm6, hvf⟩
          obtain ⟨ai, ci, rfl, hcells⟩ := ids_of hvi
          obtain ⟨m, hm0⟩ : ∃ m, l.length = m := ⟨_, rfl⟩
          have hll := inv_len HSt.out.inv
          rw [hm0] at hll
          rw [hm0]
          have HM := Lib.hid hm0
          have HC := Lib.hid hcells
          have HVF := Lib.hid hvf
          have hmplt := HSt.out.old.lt
          have HS6 := Lib.hid (HSt.out.same hm6)
          have hlt6 := hm6.size
          clear hm0 hcells hvi hm6 hvf
          go_wp2_with fail
          go_loopw [59] (fun s59 wr => ∃ k : Nat, k ≤ m ∧ s59 = .int .i64 k ∧ Hid (HealSt wu wr tb mb lv l w.heap.size w2.heap.size w5.heap.size u c (.slice a' c.refs.length cap') (l.take k)) ∧ Hid (Mod [w5.heap.size] w6 wr)) (fun s59 _ => m - (intOf s59).toNat)
          case atStart => exact ⟨0, by omega, rfl, HS6, Lib.hid (Mod.refl _ _)⟩
          case round =>
            obtain ⟨k, hk, rfl, HR, HMr⟩ := hrel
            by_cases hlt : k < m
            · obtain ⟨x, hx⟩ : ∃ x, l[k]? = some x := ⟨_, List.getElem?_eq_getElem (by have := HM.out; omega)⟩
              obtain ⟨b, rfl, hb6, cx⟩ := HC.out k x.id (by simp [hx])
              have hbne : b ≠ w5.heap.size := by
                have := HVF.out b rfl
                intro e; omega
              have cx1 := HMr.out.cell cx (by simpa using hbne)
              have hinv := HR.out.inv
              have hg := getC_at hinv hx
              have hnew : ∀ d ∈ l.take k, d.id ≠ x.id := by
                intro d hd
                obtain ⟨j, hj⟩ := List.getElem?_of_mem hd
                rw [List.getElem?_take] at hj
                split at hj
                · rename_i hjk
                  have := ids_lt hinv hj hx hjk
                  omega
                · cases hj
              have htk := take_snoc' hx
              have HX := Lib.hid hx
              have HG := Lib.hid hg
              have HNew := Lib.hid hnew
              have HTk := Lib.hid htk
              clear hx cx hg hnew hinv htk
              go_wp2_with fail
              refine (get_any _ tb mb lv l x.id HR.out.ot.tab).mono ?_
              rintro e w7 ⟨hm7, hg7⟩
              rw [HG.out] at hg7
              obtain ⟨ck, rv, hck, hd7, rfl, hrf7, _⟩ : ∃ d rv, some x = some d ∧ d.dig.length = 16 ∧ e = .returned (.tuple #[.agg (d.cells rv).toArray, .bool true]) ∧ Refs w7 rv d.refs ∧ ∀ g, rv.ownBlock = some g → wr.heap.size ≤ g := by
                rcases hg7 with ⟨h, _⟩ | h
                · cases h
                · exact h
              cases hck
              clear hg7
              have H7 := Lib.hid (HR.out.same hm7)
              have HAdd := Lib.hid (H7.out.old.add HNew.out hrf7 hd7)
              have HM7 := Lib.hid (HMr.out.trans_nil hm7)
              clear hrf7 hd7 hm7
              go_wp2_with (refine wpList_mapUpdateC rfl (.tmp 64) (.tmp 65) (.tmp 69) rfl w5.heap.size x.id (.agg (x.cells rv).toArray) rfl rfl rfl _ HAdd.out ?_; intro w8 hw8; obtain ⟨hold8, hm8⟩ := hw8; have H8 := Lib.hid (H7.out.map hm8 hold8); have HM8 := Lib.hid (HM7.out.trans hm8 (by simp)); clear hold8 hm8)
              go_roundw
              case rel => exact ⟨k + 1, by omega, by go_num, Lib.hid (by rw [HTk.out]; exact H8.out), HM8⟩
              case measure => simp [intOf]; omega
            · obtain rfl : m = k := by omega
              have hall : l.take m = l := List.take_of_length_le (by have := HM.out; omega)
              have H := HR.out
              rw [hall] at H
              have HR' := Lib.hid H
              clear hall H HR HMr HS6 HC
              go_wp2_with fail
              refine (lose_any _ tb mb lv l c.id HR'.out.ot.tab).mono ?_
              rintro e w9 hp
              rw [HLose.out] at hp
              obtain ⟨rfl, lv1, hs9⟩ := HR'.out.op hp
              have H9 := Lib.hid hs9
              clear hp hs9 HR'
              go_wp2_with fail
              refine (get_any _ tb mb lv1 l1 c.id H9.out.ot.tab).mono ?_
              rintro e w10 ⟨hm10, hg10⟩
              rw [HGet1.out] at hg10
              obtain ⟨dL, rvL, hdL1, hdL, rfl, hrfL, _⟩ : ∃ d rv, some cL = some d ∧ d.dig.length = 16 ∧ e = .returned (.tuple #[.agg (d.cells rv).toArray, .bool true]) ∧ Refs w10 rv d.refs ∧ ∀ g, rv.ownBlock = some g → w9.heap.size ≤ g := by
                rcases hg10 with ⟨h, _⟩ | h
                · cases h
                · exact h
              cases hdL1
              obtain ⟨aL, capL, rfl⟩ := hrfL.sliceLen
              have honeL : (Value.slice aL cL.refs.length capL).oneCell' = true := rfl
              have HDL := Lib.hid hdL
              have H10 := Lib.hid (H9.out.same hm10)
              clear hg10 hdL hrfL hm10 H9
              go_wp2_with (first | (refine wpList_store_at rfl 45 (.tmp 17) (.tmp 79) rfl 23 info45 w10.heap.size 0 45 zeroCells (cL.cells (.slice aL cL.refs.length capL)) rfl rfl (heap_alloc_at _ _) (by rw [Ck.cells_len, HDL.out]) (oneCell_ck honeL) (by simp [zeroCells, Ck.cells_len, HDL.out]) ?_; intro w11 hhw11 hsw11; have hmw11 := ((Mod.refl [] w10).alloc (.cells zeroCells.toArray 45)).trans hsw11 (by simp); rw [splice_all _ _ (by simp [zeroCells, Ck.cells_len, HDL.out])] at hhw11; have roww11 := Row.of_heap hhw11; have HHw11 := Lib.hid hhw11; clear hhw11; have H11 := Lib.hid (H10.out.same hmw11); have hru11 := H11.out.u) | (refine wpList_load_at rfl 26 (.tmp 5) rfl _ Try.underlying26 rfl 3 info26 w.heap.size 0 u.cells rfl hru11 rfl ?_))
              have hl21 : w11.cell? ⟨w10.heap.size, 21, none⟩ = some (.bool true) := by
                rw [← HLl.out]
                have := roww11 21 _ (Ck.c21 HDL.out _)
                rwa [Nat.zero_add] at this
              have hl18 : Row w11 w10.heap.size 18 zeroU.cells := by
                rw [← HLp.out]
                intro j v hv
                have hj : j < 3 := (List.getElem?_eq_some_iff.1 hv).1
                have e : (cL.cells (Value.slice aL cL.refs.length capL))[18 + j]? = some v := by
                  rw [Ck.ct HDL.out _ _ (by omega), show 18 + j - 17 = j + 1 by omega]
                  match j, hj, hv with
                  | 0, _, hv => exact hv
                  | 1, _, hv => exact hv
                  | 2, _, hv => exact hv
                have := roww11 (18 + j) v e
                rwa [Nat.zero_add] at this
              have hbf : w10.heap.size ∉ foot tb mb lv1 := fun hx => Nat.lt_irrefl _ (foot_lt H10.out.ot.tab _ hx)
              have hlt10 : w10.heap.size < w11.heap.size := Go.block_lt_of_cell hl21
              have hcb10 : w2.heap.size < w10.heap.size := lt_of_heap H10.out.cell
              have hmp10 : w5.heap.size < w10.heap.size := H10.out.old.lt
              have HB17 := Lib.hid (And.intro hl21 hl18)
              clear hl21 hl18 HHw11 roww11 hsw11 hru11
              refine (move_any _ tb mb lv1 l1 c.id u H11.out.ot.tab).mono ?_
              rintro e w12 hp
              rw [HMove.out] at hp
              obtain ⟨_, _, _, hmv, _⟩ := id hp
              obtain ⟨rfl, lv2, hs12⟩ := H11.out.op hp
              have HB17' := Lib.hid (And.intro (hmv.cell HB17.out.1 hbf) (HB17.out.2.mod hmv hbf))
              have H12 := Lib.hid hs12
              have hru12 := hs12.u
              clear hp hmv HB17 hbf
              have hc12 := hs12.cell
              have HRow12 := Lib.hid hru12
              clear hs12
              go_wp2_with (first | (refine wpList_load_at rfl 26 (.tmp 5) rfl _ Try.underlying26 rfl 3 info26 w.heap.size 0 u.cells rfl HRow12.out rfl ?_) | (refine wpList_store_at rfl 26 (.tmp 86) (.tmp 85) rfl 3 info26 w2.heap.size 18 45 (c.cells (.slice a' c.refs.length cap')) u.cells rfl rfl H12.out.cell rfl (oneCell_unit u) (by rw [Ck.cells_len, HD.out, U3.len]; decide) ?_; intro w13 hh13 hm13) | (refine wpList_store1 rfl 4 (.tmp 87) _ rfl (by kernel_rfl) w2.heap.size 21 45 _ (.bool false) rfl rfl hh13 rfl (by rw [length_splice _ _ _ (by rw [Ck.cells_len, HD.out, U3.len]; decide), Ck.cells_len, HD.out]; decide) ?_; intro w14 hh14 hm14; have H14 := Lib.hid (H12.out.var (c' := cM) (hm13.trans hm14 (by simp)) (by rw [hh14, ← HMc.out, splice_one _ _ _ (by rw [length_splice _ _ _ (by rw [Ck.cells_len, HD.out, U3.len]; decide), Ck.cells_len, HD.out]; decide)]) HMr.out); have HM14 := Lib.hid (hm13.trans hm14 (by simp)); clear hh13 hh14 hm13 hm14) | (refine wpList_load_at rfl 45 (.tmp 9) rfl _ Try.underlying45 rfl 23 info45 w2.heap.size (0) (cM.cells (.slice a' c.refs.length cap')) rfl (Row.of_heap H14.out.cell) (by rw [Ck.cells_len, HMd.out]) ?_) | (refine wpList_mapUpdateC rfl (.tmp 88) (.tmp 89) (.tmp 90) rfl w5.heap.size c.id (.agg (cM.cells (.slice a' c.refs.length cap')).toArray) rfl rfl rfl _ (H14.out.old.put HK0.out HMi.out H14.out.ref HMd.out) ?_; intro w15 hw15; obtain ⟨hold15, hm15⟩ := hw15; rw [HL2.out] at hold15; have H15 := Lib.hid (H14.out.map hm15 hold15); have HM15 := Lib.hid hm15; clear hold15 hm15))
              have n17c : w10.heap.size ∉ [w2.heap.size] := by simp; omega
              have n17m : w10.heap.size ∉ [w5.heap.size] := by simp; omega
              have H17 := Lib.hid (And.intro (HM15.out.cell (HM14.out.cell HB17'.out.1 n17c) n17m) ((HB17'.out.2.mod HM14.out n17c).mod HM15.out n17m))
              clear HB17' HM14 HM15 H14 H12 HRow12 hc12 hru12 H11 H10 n17c n17m
              refine (ids_any _ tb mb lv2 l2 H15.out.ot.tab).mono ?_
              rintro e w16 ⟨vj, rfl, hvj, hm16, _⟩
              obtain ⟨aj, cj, rfl, hcj⟩ := ids_of hvj
              rw [HLen2.out, HM.out]
              have HC2 := Lib.hid hcj
              have HS16 := Lib.hid (H15.out.same hm16)
              have H17' := Lib.hid (And.intro (hm16.cell H17.out.1 (by simp)) (H17.out.2.mod hm16 (by simp)))
              clear hcj hvj hm16 H17 H15
              go_wp2_with fail
              go_loopw [94] (fun s94 wr => ∃ k : Nat, k ≤ m ∧ s94 = .int .i64 k ∧ Mod [] w16 wr) (fun s94 _ => m - (intOf s94).toNat)
              case atStart => exact ⟨0, by omega, rfl, Mod.refl _ _⟩
              case round =>
                obtain ⟨k, hk, rfl, hmr⟩ := hrel
                by_cases hlt : k < m
                · obtain ⟨x, hx⟩ : ∃ x, l2[k]? = some x := ⟨_, List.getElem?_eq_getElem (by have := HM.out; have := HLen2.out; omega)⟩
                  obtain ⟨b, rfl, _, cx⟩ := HC2.out k x.id (by simp [hx])
                  have cx1 := hmr.cell cx (by simp)
                  have hg := getC_at HInv2.out hx
                  have HR := Lib.hid (HS16.out.same hmr)
                  have HX := Lib.hid hx
                  have HGx := Lib.hid hg
                  clear hx cx hg
                  go_wp2_with fail
                  refine (get_any _ tb mb lv2 l2 x.id HR.out.ot.tab).mono ?_
                  rintro e w17 ⟨hm17, hg17⟩
                  rw [HGx.out] at hg17
                  obtain ⟨ck, rvx, hck, hdx, rfl, hrfx, _⟩ : ∃ d rv, some x = some d ∧ d.dig.length = 16 ∧ e = .returned (.tuple #[.agg (d.cells rv).toArray, .bool true]) ∧ Refs w17 rv d.refs ∧ ∀ g, rv.ownBlock = some g → wr.heap.size ≤ g := by
                    rcases hg17 with ⟨h, _⟩ | h
                    · cases h
                    · exact h
                  cases hck
                  obtain ⟨ax, capx, rfl⟩ := hrfx.sliceLen
                  have honex : (Value.slice ax x.refs.length capx).oneCell' = true := rfl
                  have HDx := Lib.hid hdx
                  have HRFx := Lib.hid hrfx
                  have HR17 := Lib.hid (HR.out.same hm17)
                  have HM17 := Lib.hid (hmr.trans_nil hm17)
                  clear hg17 hdx hrfx hm17 HR
                  go_wp2_with (first | (refine wpList_store_at rfl 45 (.tmp 22) (.tmp 102) rfl 23 info45 w17.heap.size 0 45 zeroCells (x.cells (.slice ax x.refs.length capx)) rfl rfl (heap_alloc_at _ _) (by rw [Ck.cells_len, HDx.out]) (oneCell_ck honex) (by simp [zeroCells, Ck.cells_len, HDx.out]) ?_; intro w18 hhw18 hsw18; have hmw18 := ((Mod.refl [] w17).alloc (.cells zeroCells.toArray 45)).trans hsw18 (by simp); rw [splice_all _ _ (by simp [zeroCells, Ck.cells_len, HDx.out])] at hhw18; have roww18 := Row.of_heap hhw18; have HHw18 := Lib.hid hhw18; clear hhw18; obtain ⟨rvo, hlk, hrvo⟩ := (HR17.out.old.mod0 hmw18).get HX.out; have HRvo := Lib.hid hrvo) | (refine wpList_load_at rfl 45 (.tmp 22) rfl _ Try.underlying45 rfl 23 info45 w17.heap.size (0) (x.cells (.slice ax x.refs.length capx)) rfl roww18 (by rw [Ck.cells_len, HDx.out]) ?_))
                  refine (sameChunk_any _ x x (.slice ax x.refs.length capx) rvo HDx.out HDx.out (HRFx.out.mod0 hmw18) HRvo.out).mono ?_
                  rintro e w19 ⟨rfl, hm19⟩
                  have hdec : decide (x = x) = true := by simp
                  rw [hdec]
                  have HM19 := (HM17.out.trans_nil hmw18).trans_nil hm19
                  clear hdec hlk
                  go_wp2
                  go_roundw
                  case rel => exact ⟨k + 1, by omega, by go_num, HM19⟩
                  case measure => simp [intOf]; omega
                · obtain rfl : m = k := by omega
                  have hq : ∀ w, (binOp .eql 26 (.agg zeroU.cells.toArray) (.agg #[.int .i64 0, .int .i64 0, .int .i64 0])).run Try.prog w = .ok (.bool true) w := fun w => eql_unit zeroU zeroU w
                  have HR := Lib.hid (HS16.out.same hmr)
                  go_wp2_with fail
                  refine (sanity_any _).mono ?_
                  rintro e w20 ⟨rfl, hm20⟩
                  have HR20 := Lib.hid (HR.out.same hm20)
                  have h21 := hm20.cell (hmr.cell H17'.out.1 (by simp)) (by simp)
                  have h18 := Row.mod hm20 (Row.mod hmr H17'.out.2 (by simp)) (by simp)
                  have hln := HR20.out.old.len
                  rw [HLen2.out, HM.out] at hln
                  go_wp2_with (first | (refine wpList_load_at rfl 26 (.tmp 125) rfl _ Try.underlying26 rfl 3 info26 w10.heap.size 18 zeroU.cells rfl h18 rfl ?_) | (go_at_call 36; refine (len_any _ tb mb lv2 l2 HR20.out.ot.tab).mono ?_; rintro e w21 ⟨rfl, rfl⟩; rw [HLen2.out, HM.out]))
                  go_ret
                  exact ⟨by first | rfl | simp, hmwu.trans_nil HR20.out.ot.mod⟩

theorem heal_row (w : World) (sv : Value) (s : List Opn) (h : ScriptAt w sv s) (_ : ∀ o ∈ s, OpnWf o) (id : Int) (_ : -9223372036854775808 ≤ id ∧ id ≤ 9223372036854775807) (u : U3) :
    Calls Try.prog 7 #[sv, .int .i64 id, .agg #[.int .i64 u.row, .int .i64 u.group, .int .i64 u.unit]] w (BoolPost true w) := heal_any w sv s h id u

end Go.Proofs.Ytknkifanpppglaa
