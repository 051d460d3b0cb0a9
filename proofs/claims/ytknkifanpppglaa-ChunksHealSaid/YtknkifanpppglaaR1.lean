/- Walks of the reference: find, Valid, tenant, Ids, At, Live, Lost, held, Count. -/
import Derived.Test.YtknkifanpppglaaMD
import Derived.Test.YtknkifanpppglaaMB
namespace Go.Proofs.Ytknkifanpppglaa
open Go.RowKit

theorem Chunks.open {w : World} {lv : Value} {cs : List (Ck × Value)} (h : Chunks w lv cs) (hi : Inv (cksOf cs)) :
    ∃ a cap, lv = .slice a (cksOf cs).length cap ∧ ∀ (k : Nat) (c : Ck), (cksOf cs)[k]? = some c → ∃ b rv, a = some ⟨b, 0, none⟩ ∧ Row w b (k * 23) (c.cells rv) ∧ Refs w rv c.refs ∧ c.dig.length = 16 ∧ CkOk c := by
  rcases h.shape with ⟨rfl, rfl⟩ | ⟨b, cap, rfl, _⟩
  · exact ⟨_, _, rfl, fun k c hk => by simp [cksOf] at hk⟩
  · refine ⟨some ⟨b, 0, none⟩, cap, by rw [cksOf_len], fun k c hk => ?_⟩
    obtain ⟨rv, h1, h2, h3, h4⟩ := h.at hk
    exact ⟨b, rv, rfl, h2, h3, h4, hi.each c (List.mem_of_getElem? hk)⟩

theorem RTab.open {w : World} {rb : Nat} {lv : Value} {l : List Ck} (h : RTab w rb lv l) :
    w.cell? ⟨rb, 0, none⟩ = some lv ∧ l.length ≤ 65536 ∧ Inv l ∧ ∃ a cap, lv = .slice a l.length cap ∧ ∀ (k : Nat) (c : Ck), l[k]? = some c → ∃ b rv, a = some ⟨b, 0, none⟩ ∧ Row w b (k * 23) (c.cells rv) ∧ Refs w rv c.refs ∧ c.dig.length = 16 ∧ CkOk c := by
  obtain ⟨cs, h1, h2, rfl, h4⟩ := h
  exact ⟨by rw [cell_of_row _ _ _ _ _ _ h1]; rfl, inv_len h4, h4, h2.open h4⟩

def findI (l : List Ck) (id : Int) : Int := match idxOf l id with | some k => (k : Int) | none => -1

theorem idxOf_none_take {l : List Ck} {id : Int} (h : ∀ c ∈ l, c.id ≠ id) : findI l id = -1 := by
  unfold findI; rw [idxOf_none.2 h]

set_option maxHeartbeats 1000000 in
theorem rfind_any (w : World) (rb : Nat) (lv : Value) (l : List Ck) (id : Int) (h : RTab w rb lv l) :
    Calls Try.prog 61 #[.pointer (some ⟨rb, 0, none⟩), .int .i64 id] w fun e w' => e = .returned (.int .i64 (findI l id)) ∧ w = w' := by
  obtain ⟨c0, hl, hinv, a, cap, rfl, hr⟩ := h.open
  obtain ⟨r, hrr⟩ : ∃ r, findI l id = r := ⟨_, rfl⟩
  obtain ⟨n, hn⟩ : ∃ n, l.length = n := ⟨_, rfl⟩
  rw [hrr]
  rw [hn] at hl c0
  have HR := Lib.hid hr
  have HRr := Lib.hid hrr
  have HN := Lib.hid hn
  have HInv := Lib.hid hinv
  clear h hr hrr hn hinv
  go_enter Try.func61, Try.ntmps61
  go_wp2
  go_loopw [5] (fun s5 wr => ∃ k : Nat, k ≤ n ∧ s5 = .int .i64 k ∧ Hid (∀ j c, j < k → l[j]? = some c → c.id ≠ id) ∧ w = wr) (fun s5 _ => n - (intOf s5).toNat)
  case atStart => exact ⟨0, by omega, rfl, Lib.hid (fun j c hj => by omega), rfl⟩
  case round =>
    obtain ⟨k, hk, rfl, HK, rfl⟩ := hrel
    by_cases hlt : k < n
    · obtain ⟨c, hx⟩ : ∃ c, l[k]? = some c := ⟨_, List.getElem?_eq_getElem (by have := HN.out; omega)⟩
      obtain ⟨b, rv, rfl, hrw, _, _, _⟩ := HR.out k c hx
      have d0 := hrw.at0 _ (Ck.c0 c rv)
      have HX := Lib.hid hx
      clear hx hrw
      by_cases he : c.id = id
      · have hb : (c.id == id) = true := by simpa using he
        have HE := Lib.hid he
        clear he
        go_wp2
        go_ret
        obtain rfl : r = (k : Int) := by
          rw [← HRr.out]
          unfold findI
          have : idxOf l id = some k := idxOf_some.2 ⟨c, HX.out, HE.out, HK.out⟩
          rw [this]
        exact ⟨rfl, rfl⟩
      · have hb : (c.id == id) = false := by simpa using he
        have HE := Lib.hid he
        clear he
        go_wp2
        go_roundw
        case rel =>
          refine ⟨k + 1, by omega, by go_num, Lib.hid (fun j d hj hd => ?_), by first | rfl | trivial⟩
          by_cases e : j = k
          · subst e
            have h2 := HX.out
            rw [h2] at hd; cases hd; exact HE.out
          · exact HK.out j d (by omega) hd
        case measure => simp [intOf]; omega
    · obtain rfl : k = n := by omega
      go_wp2
      go_ret
      obtain rfl : r = -1 := by
        rw [← HRr.out]
        refine idxOf_none_take fun c hc => ?_
        obtain ⟨j, hj, rfl⟩ := List.getElem_of_mem hc
        exact HK.out j _ (by have := HN.out; omega) (List.getElem?_eq_getElem hj)
      exact ⟨rfl, rfl⟩

theorem rtenant_any (n : Int) (w : World) : Calls Try.prog 103 #[.int .i64 n] w fun e w' => e = .returned (.bool (tenB n)) ∧ w = w' := by
  by_cases h : 0 ≤ n
  · go_enter Try.func103, Try.ntmps103
    go_wp2
    go_ret
    exact ⟨by simp [tenB, h], rfl⟩
  · go_enter Try.func103, Try.ntmps103
    go_wp2
    go_ret
    exact ⟨by simp [tenB]; omega, rfl⟩

theorem equal_unitV (u v : U3) (w : World) : (binOp .eql 26 (.agg #[.int .i64 u.row, .int .i64 u.group, .int .i64 u.unit]) (.agg #[.int .i64 v.row, .int .i64 v.group, .int .i64 v.unit])).run Try.prog w = .ok (.bool (decide (u = v))) w := by
  have h := equal_unit u v w
  simp only [binOp]
  unfold U3.val at h
  simp [h]

theorem atU_take_none {l : List Ck} {u : U3} {k : Nat} {c : Ck} (h : l[k]? = some c) (h0 : atU (l.take k) u = none) (hc : c.lost = true ∨ c.pos ≠ u) : atU (l.take (k + 1)) u = none := by
  unfold atU at h0 ⊢
  rw [take_snoc' h, List.find?_append]
  rw [Option.map_eq_none_iff] at h0 ⊢
  rw [h0]
  rcases hc with hc | hc <;> simp [hc]
theorem atU_take_some {l : List Ck} {u : U3} {k : Nat} {c : Ck} (h : l[k]? = some c) (h0 : atU (l.take k) u = none) (h1 : c.lost = false) (h2 : c.pos = u) : atU l u = some c.id := by
  have e := List.getElem?_eq_some_iff.1 h
  unfold atU at h0 ⊢
  rw [Option.map_eq_none_iff] at h0
  conv => lhs; rw [← List.take_append_drop k l, List.drop_eq_getElem_cons e.1, e.2]
  rw [List.find?_append, h0]
  simp [h1, h2]

set_option maxHeartbeats 2000000 in
theorem rat_any (w : World) (rb : Nat) (lv : Value) (l : List Ck) (u : U3) (h : RTab w rb lv l) :
    Calls Try.prog 19 #[.pointer (some ⟨rb, 0, none⟩), .agg #[.int .i64 u.row, .int .i64 u.group, .int .i64 u.unit]] w
      fun e w' => e = .returned (.tuple #[.int .i64 ((atU l u).getD 0), .bool (atU l u).isSome]) ∧ Mod [] w w' := by
  obtain ⟨c0, hl, hinv, a, cap, rfl, hr⟩ := h.open
  obtain ⟨r, hrr⟩ : ∃ r, atU l u = r := ⟨_, rfl⟩
  obtain ⟨n, hn⟩ : ∃ n, l.length = n := ⟨_, rfl⟩
  have hrb := Go.block_lt_of_cell c0
  rw [hrr]
  rw [hn] at hl c0
  have HR := Lib.hid hr
  have HRr := Lib.hid hrr
  have HN := Lib.hid hn
  clear h hr hrr hn hinv
  go_enter Try.func19, Try.ntmps19
  go_wp2
  go_loopw [6] (fun s6 wr => ∃ k : Nat, k ≤ n ∧ s6 = .int .i64 k ∧ Hid (atU (l.take k) u = none) ∧ Mod [] w wr ∧ wr.cell? ⟨w.heap.size, 0, none⟩ = some (.int .i64 u.row) ∧ wr.cell? ⟨w.heap.size, 1, none⟩ = some (.int .i64 u.group) ∧ wr.cell? ⟨w.heap.size, 2, none⟩ = some (.int .i64 u.unit)) (fun s6 _ => n - (intOf s6).toNat)
  case atStart => exact ⟨0, by omega, rfl, Lib.hid rfl, (Mod.refl _ _).alloc _, by simp, by simp, by simp⟩
  case round =>
    obtain ⟨k, hk, rfl, HK, hm, u0, u1, u2⟩ := hrel
    have c0' := hm.cell c0 (by simp)
    by_cases hlt : k < n
    · obtain ⟨c, hx⟩ : ∃ c, l[k]? = some c := ⟨_, List.getElem?_eq_getElem (by have := HN.out; omega)⟩
      obtain ⟨b, rv, rfl, hrw, _, hd, _⟩ := HR.out k c hx
      have hrw1 := hrw.mod hm (by simp)
      have d0 := hrw1.at0 _ (Ck.c0 c rv)
      have d18 := hrw1.at 18 _ (Ck.c18 hd rv)
      have d19 := hrw1.at 19 _ (Ck.c19 hd rv)
      have d20 := hrw1.at 20 _ (Ck.c20 hd rv)
      have d21 := hrw1.at 21 _ (Ck.c21 hd rv)
      have hq := equal_unitV c.pos u
      have hi0 : (0 : Int) ≤ (k : Int) := by omega
      have hi1 : (k : Int) < (n : Int) := by omega
      have HX := Lib.hid hx
      clear hx hrw hrw1 hd c0
      cases hlost : c.lost with
      | true =>
        rw [hlost] at d21
        have HL := Lib.hid hlost
        clear hlost hq
        go_wp2
        go_quiet (fail)
        go_wp2
        go_roundw
        case rel => exact ⟨k + 1, by omega, by go_num, Lib.hid (atU_take_none HX.out HK.out (.inl HL.out)), hm.drewN _, u0, u1, u2⟩
        case measure => simp [intOf]; omega
      | false =>
        rw [hlost] at d21
        have HL := Lib.hid hlost
        clear hlost
        by_cases he : c.pos = u
        · have HE := Lib.hid he
          simp only [decide_eq_true he] at hq
          clear he
          go_wp2
          go_quiet (fail)
          go_wp2
          go_ret2
          obtain rfl : r = some c.id := by rw [← HRr.out]; exact atU_take_some HX.out HK.out HL.out HE.out
          exact ⟨rfl, hm.drewN _⟩
        · have HE := Lib.hid he
          simp only [decide_eq_false he] at hq
          clear he
          go_wp2
          go_quiet (fail)
          go_wp2
          go_roundw
          case rel => exact ⟨k + 1, by omega, by go_num, Lib.hid (atU_take_none HX.out HK.out (.inr HE.out)), hm.drewN _, u0, u1, u2⟩
          case measure => simp [intOf]; omega
    · obtain rfl : k = n := by omega
      go_wp2
      go_ret2
      obtain rfl : r = none := by
        rw [← HRr.out]
        have := HK.out
        rwa [List.take_of_length_le (by have := HN.out; omega)] at this
      exact ⟨rfl, hm⟩

end Go.Proofs.Ytknkifanpppglaa
