/- Walks of the reference: Valid, Ids, Live, Lost, held, Count. -/
import Derived.Test.YtknkifanpppglaaR1
namespace Go.Proofs.Ytknkifanpppglaa
open Go.RowKit

set_option maxHeartbeats 2000000 in
theorem rvalid_any (u : U3) (w : World) : Calls Try.prog 33 #[.agg #[.int .i64 u.row, .int .i64 u.group, .int .i64 u.unit]] w (BoolPost u.ok w) := by
  obtain ⟨row, group, unit⟩ := u
  by_cases h0 : 0 ≤ row
  · by_cases h1 : row < 4096
    · by_cases h2 : 0 ≤ group
      · by_cases h3 : group < 64
        · by_cases h4 : 0 ≤ unit
          · by_cases h5 : unit < 32
            · have e : U3.ok ⟨row, group, unit⟩ = true := by simp [U3.ok]; omega
              rw [e]
              clear e
              go_enter Try.func33, Try.ntmps33
              go_wp2
              go_ret
              exact ⟨rfl, ((Mod.refl _ _).alloc _).alloc _⟩
            · have e : U3.ok ⟨row, group, unit⟩ = false := by simp [U3.ok]; omega
              rw [e]
              clear e
              go_enter Try.func33, Try.ntmps33
              go_wp2
              go_ret
              exact ⟨rfl, ((Mod.refl _ _).alloc _).alloc _⟩
          · have e : U3.ok ⟨row, group, unit⟩ = false := by simp [U3.ok]; omega
            rw [e]
            clear e
            go_enter Try.func33, Try.ntmps33
            go_wp2
            go_ret
            exact ⟨rfl, ((Mod.refl _ _).alloc _).alloc _⟩
        · have e : U3.ok ⟨row, group, unit⟩ = false := by simp [U3.ok]; omega
          rw [e]
          clear e
          go_enter Try.func33, Try.ntmps33
          go_wp2
          go_ret
          exact ⟨rfl, ((Mod.refl _ _).alloc _).alloc _⟩
      · have e : U3.ok ⟨row, group, unit⟩ = false := by simp [U3.ok]; omega
        rw [e]
        clear e
        go_enter Try.func33, Try.ntmps33
        go_wp2
        go_ret
        exact ⟨rfl, ((Mod.refl _ _).alloc _).alloc _⟩
    · have e : U3.ok ⟨row, group, unit⟩ = false := by simp [U3.ok]; omega
      rw [e]
      clear e
      go_enter Try.func33, Try.ntmps33
      go_wp2
      go_ret
      exact ⟨rfl, ((Mod.refl _ _).alloc _).alloc _⟩
  · have e : U3.ok ⟨row, group, unit⟩ = false := by simp [U3.ok]; omega
    rw [e]
    clear e
    go_enter Try.func33, Try.ntmps33
    go_wp2
    go_ret
    exact ⟨rfl, ((Mod.refl _ _).alloc _).alloc _⟩

set_option maxHeartbeats 1000000 in
theorem rids_any (w : World) (rb : Nat) (lv : Value) (l : List Ck) (h : RTab w rb lv l) :
    Calls Try.prog 65 #[.pointer (some ⟨rb, 0, none⟩)] w (IntsPost (l.map (·.id)) w) := by
  obtain ⟨c0, hl, hinv, a, cap, rfl, hr⟩ := h.open
  obtain ⟨n, hn⟩ : ∃ n, l.length = n := ⟨_, rfl⟩
  rw [hn] at hl c0
  have HR := Lib.hid hr
  have HN := Lib.hid hn
  clear h hr hn hinv
  go_enter Try.func65, Try.ntmps65
  go_wp2
  go_loopw [3, 4] (fun s3 s4 wr => ∃ k : Nat, k ≤ n ∧ s4 = .int .i64 k ∧ Hid (Ints wr s3 ((l.take k).map (·.id))) ∧ Fresh w s3 ∧ Mod [] w wr) (fun _ s4 _ => n - (intOf s4).toNat)
  case atStart => exact ⟨0, Nat.zero_le _, rfl, Own.nil _ _ _, (by intro g hg; simp [Value.ownBlock] at hg), Mod.refl _ _⟩
  case round =>
    obtain ⟨k, hk, rfl, HO, hfr, hm⟩ := hrel
    have c0' := hm.cell c0 (by simp)
    by_cases hlt : k < n
    · obtain ⟨c, hx⟩ : ∃ c, l[k]? = some c := ⟨_, List.getElem?_eq_getElem (by have := HN.out; omega)⟩
      obtain ⟨b, rv, rfl, hrw, _, _, _⟩ := HR.out k c hx
      have d0 := (hrw.mod hm (by simp)).at0 _ (Ck.c0 c rv)
      have HX := Lib.hid hx
      have htl := List.length_take_le k l
      clear hx hrw
      go_wp2_with (first | (at_builtin; refine wpList_append_Own sty_int rfl (.tmp 14) (.tmp 23) rfl u3 (.slice (some ⟨wr.heap.size, 0, none⟩) 1 1) rfl rfl _ [[Value.int .i64 c.id]] (Ints.mod0 ((Mod.refl [] wr).alloc _) HO.out) (Src.one rfl (Row.of_heap (heap_alloc_at _ _))) (by simp [Value.oneCell']) (by simp [maxLen]; omega) (by simp; omega) ?_; intro v' w3 hown' hm3 hfr'))
      go_roundw
      case rel =>
        refine ⟨k + 1, by omega, by go_num, ?_, hfr.or hfr' (by have := hm.size; simp; omega), (hm.alloc _).fresh hfr hm3⟩
        show Ints _ _ _
        rw [take_snoc' HX.out]
        simpa [Ints] using hown'
      case measure => simp [intOf]; omega
    · obtain rfl : k = n := by omega
      go_wp2
      go_ret
      refine ⟨u3, rfl, ?_, hm, hfr⟩
      have := HO.out
      rwa [List.take_of_length_le (by have := HN.out; omega)] at this

set_option maxHeartbeats 1000000 in
theorem rlive_any (w : World) (rb : Nat) (lv : Value) (l : List Ck) (row group : Int) (h : RTab w rb lv l) :
    Calls Try.prog 23 #[.pointer (some ⟨rb, 0, none⟩), .agg #[.int .i64 row, .int .i64 group]] w (IntsPost (liveL l row group) w) := by
  have HT := Lib.hid h
  clear h
  go_enter Try.func23, Try.ntmps23
  go_wp2
  go_loopw [5, 6] (fun s5 s6 wr => ∃ k : Nat, k ≤ 32 ∧ s6 = .int .i64 k ∧ Hid (Ints wr s5 (liveTo l row group k)) ∧ FreshN (w.heap.size + 1) s5 ∧ Mod [] w wr ∧ wr.cell? ⟨w.heap.size, 0, none⟩ = some (.int .i64 row) ∧ wr.cell? ⟨w.heap.size, 1, none⟩ = some (.int .i64 group)) (fun _ s6 _ => 32 - (intOf s6).toNat)
  case atStart => exact ⟨0, by omega, rfl, Own.nil _ _ _, FreshN.nil _, (Mod.refl _ _).alloc _, by simp, by simp⟩
  case round =>
    obtain ⟨k, hk, rfl, HO, hfr, hm, d0, d1⟩ := hrel
    have hll := liveTo_len l row group k
    by_cases hlt : k < 32
    · cases ha : atU l ⟨row, group, k⟩ with
      | none =>
        have HA := Lib.hid ha
        clear ha
        go_wp2_with (go_at_call 19; refine (rat_any _ rb lv l ⟨row, group, k⟩ (HT.out.mod0 hm)).mono ?_; rintro e w2 ⟨rfl, hm2⟩; rw [HA.out])
        go_roundw
        case rel =>
          refine ⟨k + 1, by omega, by go_num, ?_, hfr, hm.trans_nil hm2, hm2.cell d0 (by simp), hm2.cell d1 (by simp)⟩
          have e := liveTo_succ l row group k
          rw [HA.out] at e
          show Ints _ _ _
          rw [e]
          simpa using Ints.mod0 hm2 HO.out
        case measure => simp [intOf]; omega
      | some id =>
        have HA := Lib.hid ha
        clear ha
        go_wp2_with (first | (go_at_call 19; refine (rat_any _ rb lv l ⟨row, group, k⟩ (HT.out.mod0 hm)).mono ?_; rintro e w2 ⟨rfl, hm2⟩; rw [HA.out]) | (at_builtin; refine wpList_append_Own sty_int rfl (.tmp 22) (.tmp 24) rfl u5 (.slice (some ⟨w2.heap.size, 0, none⟩) 1 1) rfl rfl _ [[Value.int .i64 id]] (Ints.mod0 (hm2.alloc _) HO.out) (Src.one rfl (Row.of_heap (heap_alloc_at _ _))) (by simp [Value.oneCell']) (by simp [maxLen]; omega) (by simp; omega) ?_; intro v' w3 hown' hm3 hfr'; have hm03 := ((hm.trans_nil hm2).alloc (.cells #[.int .i64 id] 3)).fresh (FreshN.mono hfr (Nat.le_succ _)) hm3; have d0' := hm3.cell (b := w.heap.size) ((hm2.alloc (.cells #[.int .i64 id] 3)).cell d0 (by simp)) (hfr.notin (Nat.lt_succ_self _)); have d1' := hm3.cell (b := w.heap.size) ((hm2.alloc (.cells #[.int .i64 id] 3)).cell d1 (by simp)) (hfr.notin (Nat.lt_succ_self _))))
        go_roundw
        case rel =>
          have hsz : w.heap.size < wr.heap.size := Go.block_lt_of_cell d0
          have hsz2 := hm2.size
          refine ⟨k + 1, by omega, by go_num, ?_, hfr.or hfr' (by rw [alloc_size]; omega), hm03, d0', d1'⟩
          have e := liveTo_succ l row group k
          rw [HA.out] at e
          show Ints _ _ _
          rw [e]
          simpa [Ints] using hown'
        case measure => simp [intOf]; omega
    · obtain rfl : k = 32 := by omega
      go_wp2
      go_ret
      exact ⟨u5, rfl, HO.out, hm, FreshN.mono hfr (Nat.le_succ _)⟩

set_option maxHeartbeats 2000000 in
theorem rheld_any (w : World) (c : Ck) (rv : Value) (t : Int) (hd : c.dig.length = 16) (hr : Refs w rv c.refs) :
    Calls Try.prog 64 #[.agg (c.cells rv).toArray, .int .i64 t] w fun e w' => e = .returned (.int .i64 (heldL c.refs t)) ∧ Mod [] w w' := by
  obtain ⟨r, hrr⟩ : ∃ r, heldL c.refs t = r := ⟨_, rfl⟩
  obtain ⟨a, cap, rfl⟩ := hr.sliceLen
  have hlen : c.refs.length ≤ 9223372036854775807 := by
    rcases hr.shape with ⟨h1, h2⟩ | ⟨b, cap, h1, _, h2, h3, _⟩
    · rw [h2]; simp
    · unfold maxLen at h3; omega
  obtain ⟨n, hn⟩ : ∃ n, c.refs.length = n := ⟨_, rfl⟩
  rw [hn] at hlen hr
  rw [hrr, hn]
  obtain ⟨CA, hCA⟩ : ∃ CA, (c.cells (.slice a n cap)).toArray = CA := ⟨_, rfl⟩
  have a22 : CA[22]? = some (.slice a n cap) := by rw [← hCA]; simpa using Ck.c22 hd _
  rw [hCA]
  have w22 : (w.alloc (.cells CA 45)).cell? ⟨w.heap.size, 22, none⟩ = some (.slice a n cap) := by
    rw [cell_of_row _ _ _ _ _ _ (heap_alloc_at w _)]; exact a22
  have HRr := Lib.hid hrr
  have HN := Lib.hid hn
  have HR := Lib.hid hr
  clear hrr hn hr hCA hd
  go_enter Try.func64, Try.ntmps64
  go_wp2
  go_loopw [5] (fun s5 wr => ∃ k : Nat, k ≤ n ∧ s5 = .int .i64 k ∧ Hid (∀ j x, j < k → c.refs[j]? = some x → x.1 ≠ t) ∧ w.alloc (.cells CA 45) = wr) (fun s5 _ => n - (intOf s5).toNat)
  case atStart => exact ⟨0, by omega, rfl, Lib.hid (fun j x hj => by omega), rfl⟩
  case round =>
    obtain ⟨k, hk, rfl, HK, rfl⟩ := hrel
    by_cases hlt : k < n
    · obtain ⟨x, hx⟩ : ∃ x, c.refs[k]? = some x := ⟨_, List.getElem?_eq_getElem (by have := HN.out; omega)⟩
      obtain ⟨b, rfl, hrx⟩ := HR.out.cell hx
      have hrx1 := hrx.mod ((Mod.refl [] w).alloc (.cells CA 45)) (by simp)
      have x0 := hrx1.at0 _ rfl
      have x1 := hrx1.at 1 _ rfl
      have HX := Lib.hid hx
      clear hx hrx hrx1
      by_cases he : x.1 = t
      · have hb : (x.1 == t) = true := by simpa using he
        have HE := Lib.hid he
        clear he
        go_wp2
        go_ret
        obtain rfl : r = x.2 := by
          rw [← HRr.out]
          have e := List.getElem?_eq_some_iff.1 HX.out
          unfold heldL
          have hf : c.refs.find? (fun y => y.1 == t) = some x := by
            conv => lhs; rw [← List.take_append_drop k c.refs, List.drop_eq_getElem_cons e.1, e.2]
            rw [List.find?_append, List.find?_eq_none.2, Option.none_or, List.find?_cons_of_pos (by simpa using HE.out)]
            intro y hy
            obtain ⟨j, hj, rfl⟩ := List.getElem_of_mem hy
            have hj' : j < k := by rw [List.length_take] at hj; omega
            have hj2 : j < c.refs.length := by rw [List.length_take] at hj; omega
            have := HK.out j _ hj' (List.getElem?_eq_getElem hj2)
            rw [List.getElem_take]
            simpa using this
          rw [hf]; rfl
        exact ⟨rfl, (Mod.refl _ _).alloc _⟩
      · have hb : (x.1 == t) = false := by simpa using he
        have HE := Lib.hid he
        clear he
        go_wp2
        go_roundw
        case rel =>
          refine ⟨k + 1, by omega, by go_num, Lib.hid (fun j y hj hy => ?_), by first | rfl | trivial⟩
          by_cases e : j = k
          · subst e
            have h2 := HX.out
            rw [h2] at hy; cases hy; exact HE.out
          · exact HK.out j y (by omega) hy
        case measure => simp [intOf]; omega
    · obtain rfl : k = n := by omega
      go_wp2
      go_ret
      obtain rfl : r = 0 := by
        rw [← HRr.out]
        unfold heldL
        rw [List.find?_eq_none.2]
        · rfl
        · intro y hy
          obtain ⟨j, hj, rfl⟩ := List.getElem_of_mem hy
          have := HK.out j _ (by have := HN.out; omega) (List.getElem?_eq_getElem hj)
          simpa using this
      exact ⟨rfl, (Mod.refl _ _).alloc _⟩

set_option maxHeartbeats 1000000 in
theorem rcount_any (w : World) (rb : Nat) (lv : Value) (l : List Ck) (t : Int) (h : RTab w rb lv l) :
    Calls Try.prog 28 #[.pointer (some ⟨rb, 0, none⟩), .int .i64 t] w fun e w' => e = .returned (.int .i64 (countL l t)) ∧ Mod [] w w' := by
  obtain ⟨c0, hl, hinv, a, cap, rfl, hr⟩ := h.open
  have hcb := fun k => count_take_bounds hinv.each hl t k
  obtain ⟨n, hn⟩ : ∃ n, l.length = n := ⟨_, rfl⟩
  rw [hn] at hl c0
  have HR := Lib.hid hr
  have HN := Lib.hid hn
  have HB := Lib.hid hcb
  clear h hr hn hinv hcb
  go_enter Try.func28, Try.ntmps28
  go_wp2
  go_loopw [5, 6] (fun s5 s6 wr => ∃ k : Nat, k ≤ n ∧ s6 = .int .i64 k ∧ s5 = .int .i64 (countL (l.take k) t) ∧ Mod [] w wr) (fun _ s6 _ => n - (intOf s6).toNat)
  case atStart => exact ⟨0, Nat.zero_le _, rfl, rfl, Mod.refl _ _⟩
  case round =>
    obtain ⟨k, hk, rfl, rfl, hm⟩ := hrel
    have c0' := hm.cell c0 (by simp)
    by_cases hlt : k < n
    · obtain ⟨c, hx⟩ : ∃ c, l[k]? = some c := ⟨_, List.getElem?_eq_getElem (by have := HN.out; omega)⟩
      obtain ⟨b, rv, rfl, hrw, hrf, hd, hok⟩ := HR.out k c hx
      have hrw1 := hrw.mod hm (by simp)
      have hrfm := hrf.mod0 hm
      have hsn := count_snoc l t k c hx
      have b1 := HB.out k
      have b2 := HB.out (k + 1)
      rw [hsn] at b2
      have HRM := Lib.hid hrfm
      have HD := Lib.hid hd
      have HS := Lib.hid hsn
      clear hx hrw hrf hrfm hd hsn hok
      go_wp2_with (first | (refine wpList_load_at rfl 45 (.tmp 22) rfl _ Try.underlying45 rfl 23 info45 b (k * 23) (c.cells rv) rfl hrw1 (by rw [Ck.cells_len, HD.out]) ?_) | (go_at_call 64; refine (rheld_any wr c rv t HD.out HRM.out).mono ?_; rintro e w3 ⟨rfl, hm3⟩))
      go_roundw
      case rel => exact ⟨k + 1, by omega, by go_num, by rw [HS.out], hm.trans_nil hm3⟩
      case measure => simp [intOf]; omega
    · obtain rfl : k = n := by omega
      go_wp2
      go_ret
      exact ⟨ret_int (by rw [List.take_of_length_le (by have := HN.out; omega)]), hm⟩

end Go.Proofs.Ytknkifanpppglaa
