/- The law ChunksUnits returns true for every script: the walk. -/
import Derived.Test.YtknkifanpppglaaW34
import Derived.Test.YtknkifanpppglaaME
namespace Go.Proofs.Ytknkifanpppglaa
open Go.RowKit

theorem count_fm (f : Nat → Option Int) (id : Int) (u : Nat) (h1 : f u = some id) (h2 : ∀ n, f n = some id → n = u) : ∀ m : Nat, ((List.range m).filterMap f).count id = if u < m then 1 else 0
  | 0 => by simp
  | m + 1 => by
    rw [List.range_succ, List.filterMap_append, List.count_append, count_fm f id u h1 h2 m]
    by_cases e : m = u
    · subst e
      simp [h1]
    · have : ([m].filterMap f).count id = 0 := by
        cases hf : f m with
        | none => simp [hf]
        | some j =>
          have : j ≠ id := fun ej => e (h2 m (by rw [hf, ej]))
          simp [hf, this]
      rw [this]
      by_cases e2 : u < m
      · rw [if_pos e2, if_pos (by omega)]
      · rw [if_neg e2, if_neg (by omega)]

theorem count_live {l : List Ck} (h : Inv l) {k : Nat} {c : Ck} (hk : l[k]? = some c) (hl : c.lost = false) : (liveL l c.pos.row c.pos.group).count c.id = 1 := by
  have hu := U3.ok_range ((h.each c (List.mem_of_getElem? hk)).pos hl)
  obtain ⟨u, hu'⟩ : ∃ u : Nat, c.pos.unit = u := ⟨c.pos.unit.toNat, by omega⟩
  have hp : c.pos = ⟨c.pos.row, c.pos.group, (u : Int)⟩ := by rw [← hu']
  unfold liveL
  rw [count_fm _ c.id u ?_ ?_ 32, if_pos (by omega)]
  · rw [← hp]
    exact (atU_iff h).2 ⟨k, c, hk, hl, rfl, rfl⟩
  · intro n hn
    obtain ⟨j, d, h1, h2, h3, h4⟩ := (atU_iff h).1 hn
    have e := ids_inj h h1 hk h4
    subst e
    rw [hk] at h1
    cases h1
    rw [hp] at h3
    simp at h3
    omega

theorem count_take {xs : List Int} {k : Nat} {x id : Int} (h : xs[k]? = some x) : (xs.take (k + 1)).count id = (xs.take k).count id + if x = id then 1 else 0 := by
  rw [take_snoc' h, List.count_append]
  by_cases e : x = id <;> simp [e]

theorem getC_at {l : List Ck} (h : Inv l) {k : Nat} {c : Ck} (hk : l[k]? = some c) : getC l c.id = some c := by
  rw [getC_idx, idxOf_at h hk]; exact hk

set_option maxRecDepth 100000 in
set_option maxHeartbeats 4000000 in
theorem units_any (w : World) (sv : Value) (s : List Opn) (h : ScriptAt w sv s) : Calls Try.prog 6 #[sv] w (BoolPost true w) := by
  go_enter Try.func6, Try.ntmps6
  go_wp2_with fail
  refine (build_any _ sv s h).mono ?_
  rintro e w1 hb
  rcases hb with ⟨_, rfl, hm1⟩ | ⟨_, tb, mb, lv, rfl, o1⟩
  · go_wp2_with (go_at_call 14; refine (sanity_any _).mono ?_; rintro e w2 ⟨rfl, hm2⟩)
    go_ret
    exact ⟨rfl, hm1.trans_nil hm2⟩
  · obtain ⟨l, hl0⟩ : ∃ l, opsL [] s = l := ⟨_, rfl⟩
    rw [hl0] at o1
    clear hl0 h
    go_wp2_with fail
    refine (ids_any _ tb mb lv l o1.tab).mono ?_
    rintro e w2 ⟨vi, rfl, hvi, hm2, _⟩
    have o2 := (o1.same hm2).1
    have hinv := o2.inv
    have hll := inv_len hinv
    clear o1 hm2
    obtain ⟨ai, ci, rfl, hcells⟩ : ∃ a c, vi = .slice a l.length c ∧ ∀ k x, (l.map (·.id))[k]? = some x → ∃ b, a = some ⟨b, 0, none⟩ ∧ w2.cell? ⟨b, k, none⟩ = some (.int .i64 x) := by
      rcases hvi.shape with ⟨rfl, h2⟩ | ⟨b, cap, rfl, _, _, _, h2⟩
      · have : l = [] := by simpa using h2
        subst this
        exact ⟨_, _, rfl, fun k x hk => by simp at hk⟩
      · exact ⟨_, _, by rw [List.length_map], fun k x hk => ⟨b, rfl, h2 k x hk⟩⟩
    obtain ⟨m, hm0⟩ : ∃ m, l.length = m := ⟨_, rfl⟩
    rw [hm0] at hll
    rw [hm0]
    have HM := Lib.hid hm0
    have HC := Lib.hid hcells
    have HInv := Lib.hid hinv
    have HO := Lib.hid o2
    clear hm0 hcells hinv hvi o2
    go_wp2_with fail
    go_loopw [25] (fun s25 wr => ∃ k : Nat, k ≤ m ∧ s25 = .int .i64 k ∧ Mod [] w2 wr) (fun s25 _ => m - (intOf s25).toNat)
    case atStart => exact ⟨0, by omega, rfl, Mod.refl _ _⟩
    case round =>
      obtain ⟨k, hk, rfl, hmr⟩ := hrel
      by_cases hlt : k < m
      · obtain ⟨c, hx⟩ : ∃ c, l[k]? = some c := ⟨_, List.getElem?_eq_getElem (by have := HM.out; omega)⟩
        obtain ⟨b, rfl, cx⟩ := HC.out k c.id (by simp [hx])
        have cx1 := hmr.cell cx (by simp)
        have hg := getC_at HInv.out hx
        have hok := HInv.out.each c (List.mem_of_getElem? hx)
        have hor := (HO.out.same hmr).1
        have hd := hok.dig
        have hrne : ((c.refs.length : Int) == 0) = false := by
          have := hok.refsNe
          have : c.refs.length ≠ 0 := fun e => this (List.eq_nil_of_length_eq_zero e)
          simp; omega
        have HX := Lib.hid hx
        have HG := Lib.hid hg
        have HOk := Lib.hid hok
        have HOr := Lib.hid hor
        have HD := Lib.hid hd
        clear hx cx hg hok hor hd
        go_wp2_with fail
        refine (get_any _ tb mb lv l c.id HOr.out.tab).mono ?_
        rintro e w3 ⟨hm3, hg3⟩
        rw [HG.out] at hg3
        obtain ⟨ck, rv, hck, hd3, rfl, hrf3, _⟩ : ∃ d rv, some c = some d ∧ d.dig.length = 16 ∧ e = .returned (.tuple #[.agg (d.cells rv).toArray, .bool true]) ∧ Refs w3 rv d.refs ∧ ∀ g, rv.ownBlock = some g → wr.heap.size ≤ g := by
          rcases hg3 with ⟨h, _⟩ | h
          · cases h
          · exact h
        cases hck
        clear hg3 hd3
        obtain ⟨a', cap', rfl⟩ := hrf3.sliceLen
        have hone : (Value.slice a' c.refs.length cap').oneCell' = true := rfl
        have hmr3 := hmr.trans_nil hm3
        clear hrf3 hm3 HOr
        cases hlost : c.lost with
        | true =>
          have hz := HOk.out.gone hlost
          have hq : ∀ w, (binOp .neq 26 (.agg #[.int .i64 0, .int .i64 0, .int .i64 0]) (.agg #[.int .i64 0, .int .i64 0, .int .i64 0])).run Try.prog w = .ok (.bool false) w := fun w => nequal_unit zeroU zeroU w
          have HL := Lib.hid hlost
          have HZ := Lib.hid hz
          clear hlost hz
          go_wp2_with (first | (refine wpList_store_at rfl 45 (.tmp 7) (.tmp 33) rfl 23 info45 w3.heap.size 0 45 zeroCells (c.cells (.slice a' c.refs.length cap')) rfl rfl (heap_alloc_at _ _) (by rw [Ck.cells_len, HD.out]) (oneCell_ck hone) (by simp [zeroCells, Ck.cells_len, HD.out]) ?_; intro w4 hhw4 hsw4; have hmw4 := ((Mod.refl [] w3).alloc (.cells zeroCells.toArray 45)).trans hsw4 (by simp); rw [splice_all _ _ (by simp [zeroCells, Ck.cells_len, HD.out])] at hhw4; have roww4 := Row.of_heap hhw4; have HHw4 := Lib.hid hhw4; clear hhw4; have d0 : w4.cell? ⟨w3.heap.size, 0, none⟩ = some (.int .i64 c.id) := roww4 0 _ rfl; have d22 : w4.cell? ⟨w3.heap.size, 22, none⟩ = some (.slice a' c.refs.length cap') := roww4 22 _ (Ck.c22 HD.out _); have d21 : w4.cell? ⟨w3.heap.size, 21, none⟩ = some (.bool true) := (by rw [← HL.out]; exact roww4 21 _ (Ck.c21 HD.out _)); have d18 : w4.cell? ⟨w3.heap.size, 18, none⟩ = some (.int .i64 0) := (by have := roww4 18 _ (Ck.c18 HD.out _); rw [HZ.out] at this; exact this); have d19 : w4.cell? ⟨w3.heap.size, 19, none⟩ = some (.int .i64 0) := (by have := roww4 19 _ (Ck.c19 HD.out _); rw [HZ.out] at this; exact this); have d20 : w4.cell? ⟨w3.heap.size, 20, none⟩ = some (.int .i64 0) := (by have := roww4 20 _ (Ck.c20 HD.out _); rw [HZ.out] at this; exact this)) | fail)
          go_roundw
          case rel => exact ⟨k + 1, by omega, by go_num, hmr3.trans_nil hmw4⟩
          case measure => simp [intOf]; omega
        | false =>
          have hat : atU l c.pos = some c.id := (atU_iff HInv.out).2 ⟨k, c, HX.out, hlost, rfl, rfl⟩
          have hcl := count_live HInv.out HX.out hlost
          have HL := Lib.hid hlost
          have HAt := Lib.hid hat
          have HCl := Lib.hid hcl
          clear hlost hat hcl
          go_wp2_with (first | (refine wpList_store_at rfl 45 (.tmp 7) (.tmp 33) rfl 23 info45 w3.heap.size 0 45 zeroCells (c.cells (.slice a' c.refs.length cap')) rfl rfl (heap_alloc_at _ _) (by rw [Ck.cells_len, HD.out]) (oneCell_ck hone) (by simp [zeroCells, Ck.cells_len, HD.out]) ?_; intro w4 hhw4 hsw4; have hmw4 := ((Mod.refl [] w3).alloc (.cells zeroCells.toArray 45)).trans hsw4 (by simp); rw [splice_all _ _ (by simp [zeroCells, Ck.cells_len, HD.out])] at hhw4; have roww4 := Row.of_heap hhw4; have HHw4 := Lib.hid hhw4; clear hhw4; have d0 : w4.cell? ⟨w3.heap.size, 0, none⟩ = some (.int .i64 c.id) := roww4 0 _ rfl; have d22 : w4.cell? ⟨w3.heap.size, 22, none⟩ = some (.slice a' c.refs.length cap') := roww4 22 _ (Ck.c22 HD.out _); have d21 : w4.cell? ⟨w3.heap.size, 21, none⟩ = some (.bool false) := (by rw [← HL.out]; exact roww4 21 _ (Ck.c21 HD.out _)); have d18 : w4.cell? ⟨w3.heap.size, 18, none⟩ = some (.int .i64 c.pos.row) := roww4 18 _ (Ck.c18 HD.out _); have d19 : w4.cell? ⟨w3.heap.size, 19, none⟩ = some (.int .i64 c.pos.group) := roww4 19 _ (Ck.c19 HD.out _); have d20 : w4.cell? ⟨w3.heap.size, 20, none⟩ = some (.int .i64 c.pos.unit) := roww4 20 _ (Ck.c20 HD.out _)) | fail)
          have hm4 := hmr3.trans_nil hmw4
          have o4 := (HO.out.same hm4).1
          refine (at_any _ tb mb lv l c.pos o4.tab).mono ?_
          rintro e w5 ⟨rfl, hm5⟩
          rw [HAt.out]
          have d18' := hm5.cell d18 (by simp)
          have d19' := hm5.cell d19 (by simp)
          have o5 := (o4.same hm5).1
          have hm25 := hm4.trans_nil hm5
          clear d0 d22 d21 d18 d19 d20 hsw4 hmw4 roww4 HHw4 hm4 o4 hm5
          go_wp2_with fail
          refine (live_any _ tb mb lv l c.pos.row c.pos.group o5.tab).mono ?_
          rintro e w6 ⟨vl, rfl, hvl, hm6, _⟩
          have hm26 := hm25.trans_nil hm6
          obtain ⟨xs, hxs⟩ : ∃ xs, liveL l c.pos.row c.pos.group = xs := ⟨_, rfl⟩
          rw [hxs] at hvl
          have hcx : xs.count c.id = 1 := by rw [← hxs]; exact HCl.out
          have hxl : xs.length ≤ 32 := by rw [← hxs]; exact liveTo_len l c.pos.row c.pos.group 32
          obtain ⟨al, cl, rfl, hlc⟩ : ∃ a c', vl = .slice a xs.length c' ∧ ∀ j x, xs[j]? = some x → ∃ b, a = some ⟨b, 0, none⟩ ∧ w6.cell? ⟨b, j, none⟩ = some (.int .i64 x) := by
            rcases hvl.shape with ⟨rfl, rfl⟩ | ⟨b, cap, rfl, _, _, _, h2⟩
            · exact ⟨_, _, rfl, fun k x hk => by simp at hk⟩
            · exact ⟨_, _, rfl, fun k x hk => ⟨b, rfl, h2 k x hk⟩⟩
          obtain ⟨q, hq⟩ : ∃ q, xs.length = q := ⟨_, rfl⟩
          rw [hq] at hxl
          rw [hq]
          have HQ := Lib.hid hq
          have HCX := Lib.hid hcx
          have HLc := Lib.hid hlc
          clear hxs hcx hlc hq hvl hm25 hm6 d18' d19' o5
          go_wp2_with fail
          obtain ⟨wo, hwo⟩ : ∃ wo : World, wo = wr := ⟨_, rfl⟩
          go_loopw [11, 68] (fun s11 s68 wq => ∃ j : Nat, j ≤ q ∧ s68 = .int .i64 j ∧ s11 = .int .i64 ((xs.take j).count c.id) ∧ w6 = wq) (fun _ s68 _ => q - (intOf s68).toNat)
          case atStart => exact ⟨0, by omega, rfl, rfl, rfl⟩
          case round =>
            obtain ⟨j, hj, rfl, rfl, rfl⟩ := hrel
            by_cases hlj : j < q
            · obtain ⟨x, hxj⟩ : ∃ x, xs[j]? = some x := ⟨_, List.getElem?_eq_getElem (by have := HQ.out; omega)⟩
              obtain ⟨bl, rfl, cxl⟩ := HLc.out j x hxj
              have hct := count_take (id := c.id) hxj
              have hcb : (xs.take j).count c.id ≤ 32 := by
                have h1 := List.count_le_length (a := c.id) (l := xs.take j)
                have h2 := List.length_take_le j xs
                omega
              have HCt := Lib.hid hct
              clear hxj hct
              by_cases he : x = c.id
              · have hb : (x == c.id) = true := by simpa using he
                have HE := Lib.hid he
                clear he
                go_wp2
                go_roundw
                case rel => exact ⟨j + 1, by omega, by go_num, int_eq (by rw [HCt.out, if_pos HE.out]; push_cast; rfl), by first | rfl | trivial⟩
                case measure => simp [intOf]; omega
              · have hb : (x == c.id) = false := by simpa using he
                have HE := Lib.hid he
                clear he
                go_wp2
                go_roundw
                case rel => exact ⟨j + 1, by omega, by go_num, int_eq (by rw [HCt.out, if_neg HE.out]; simp), by first | rfl | trivial⟩
                case measure => simp [intOf]; omega
            · obtain rfl : j = q := by omega
              have hfin : (xs.take j).count c.id = 1 := by
                have := HCX.out
                rw [List.take_of_length_le (by have := HQ.out; omega)]
                exact this
              rw [hfin]
              clear hfin
              go_wp2
              go_roundw
              case rel => exact ⟨k + 1, by omega, by go_num, hm26⟩
              case measure => simp [intOf]; omega
      · obtain rfl : k = m := by omega
        go_wp2_with (go_at_call 14; refine (sanity_any _).mono ?_; rintro e w3 ⟨rfl, hm3⟩)
        go_ret
        exact ⟨rfl, (HO.out.mod.trans_nil hmr).trans_nil hm3⟩

theorem units_row (w : World) (sv : Value) (s : List Opn) (h : ScriptAt w sv s) (_ : ∀ o ∈ s, OpnWf o) : Calls Try.prog 6 #[sv] w (BoolPost true w) := units_any w sv s h

end Go.Proofs.Ytknkifanpppglaa
