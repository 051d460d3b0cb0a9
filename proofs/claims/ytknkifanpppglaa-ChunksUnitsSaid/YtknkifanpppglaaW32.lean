/- Walks: the law's build. -/
import Derived.Test.YtknkifanpppglaaW30
namespace Go.Proofs.Ytknkifanpppglaa
open Go.RowKit

/-- sv is a script that lies in memory -/
def ScriptAt (w : World) (sv : Value) (s : List Opn) : Prop :=
  s.length ≤ 9223372036854775807 ∧ ((s = [] ∧ ∃ a c, sv = .slice a 0 c) ∨ ∃ b off cap, sv = .slice (some ⟨b, off, none⟩) s.length cap ∧ ∀ k o, s[k]? = some o → Row w b (off + k * 9) o.cells)

theorem ScriptAt.mod0 {w w' : World} (hm : Mod [] w w') {sv : Value} {s : List Opn} (h : ScriptAt w sv s) : ScriptAt w' sv s := by
  refine ⟨h.1, ?_⟩
  rcases h.2 with h1 | ⟨b, off, cap, h1, h2⟩
  · exact .inl h1
  · exact .inr ⟨b, off, cap, h1, fun k o hk => (h2 k o hk).mod hm (by simp)⟩

theorem ScriptAt.slice {w : World} {sv : Value} {s : List Opn} (h : ScriptAt w sv s) : ∃ a c, sv = .slice a s.length c ∧ ∀ k o, s[k]? = some o → ∃ b off, a = some ⟨b, off, none⟩ ∧ Row w b (off + k * 9) o.cells := by
  rcases h.2 with ⟨rfl, a, c, rfl⟩ | ⟨b, off, cap, rfl, h2⟩
  · exact ⟨a, c, rfl, fun k o hk => by simp at hk⟩
  · exact ⟨_, _, rfl, fun k o hk => ⟨b, off, rfl, h2 k o hk⟩⟩

theorem infoOp : (Try.prog.info? 37).map (·.size) = some 9 := by kernel_rfl
theorem Opn.cells_len (o : Opn) : o.cells.length = 9 := rfl
def zeroOp : List Value := [.int .i64 0, .int .i64 0, .int .i64 0, .int .i64 0, .int .i64 0, .int .i64 0, .int .i64 0, .int .u8 0, .int .u32 0]
theorem oneCell_op (o : Opn) : ∀ u ∈ o.cells, u.oneCell' = true := by
  intro u hu
  simp [Opn.cells] at hu
  rcases hu with rfl | rfl | rfl | rfl | rfl | rfl | rfl | rfl | rfl <;> rfl

/-- an operation is stored into the block that was just laid -/
theorem store_op {w w' : World} {o : Opn} (hh : w'.heap[w.heap.size]? = some (.cells (splice zeroOp 0 o.cells).toArray 37 (0, 0))) (hs : Mod [w.heap.size] (w.alloc (.cells zeroOp.toArray 37)) w') :
    Row w' w.heap.size 0 o.cells ∧ Mod [] w w' := by
  rw [splice_all zeroOp o.cells rfl] at hh
  exact ⟨Row.of_heap hh, ((Mod.refl [] w).alloc _).trans hs (by simp)⟩

def BuildPost (s : List Opn) (w : World) (e : Ending) (w' : World) : Prop :=
  (120 < s.length ∧ e = .returned (.tuple #[.pointer none, .bool false]) ∧ Mod [] w w') ∨
  (s.length ≤ 120 ∧ ∃ tb mb lv, e = .returned (.tuple #[.pointer (some ⟨tb, 0, none⟩), .bool true]) ∧ OT w w' tb mb lv (opsL [] s) [])

set_option maxRecDepth 100000 in
set_option maxHeartbeats 1000000 in
theorem build_any (w : World) (sv : Value) (s : List Opn) (h : ScriptAt w sv s) : Calls Try.prog 13 #[sv] w (BuildPost s w) := by
  obtain ⟨a, c, rfl, hr⟩ := h.slice
  have hl := h.1
  obtain ⟨n, hn⟩ : ∃ n, s.length = n := ⟨_, rfl⟩
  rw [hn] at hl ⊢
  have HN := Lib.hid hn
  have HR := Lib.hid hr
  clear hn hr h
  by_cases hbig : 120 < n
  · have hg : (120 : Int) < (n : Int) := by omega
    go_enter Try.func13, Try.ntmps13
    go_wp2_with (go_at_call 29; refine (new_any _).mono ?_; rintro e w1 hnew; obtain ⟨tb, mb, rfl, o1⟩ := OT.new hnew; clear hnew)
    go_ret2
    exact .inl ⟨by rw [HN.out]; exact hbig, rfl, o1.mod⟩
  · have hg : ¬ (120 : Int) < (n : Int) := by omega
    go_enter Try.func13, Try.ntmps13
    go_wp2_with (go_at_call 29; refine (new_any _).mono ?_; rintro e w1 hnew; obtain ⟨tb, mb, rfl, o1⟩ := OT.new hnew; clear hnew)
    go_loopw [17] (fun s17 wr => ∃ k : Nat, k ≤ n ∧ s17 = .int .i64 k ∧ Hid (∃ lv, OT w wr tb mb lv (opsL [] (s.take k)) [])) (fun s17 _ => n - (intOf s17).toNat)
    case atStart => exact ⟨0, by omega, rfl, Lib.hid ⟨_, o1⟩⟩
    case round =>
      obtain ⟨k, hk, rfl, HS⟩ := hrel
      obtain ⟨lv, ot⟩ := HS.out
      by_cases hlt : k < n
      · obtain ⟨o, ho⟩ : ∃ o, s[k]? = some o := ⟨_, List.getElem?_eq_getElem (by have := HN.out; omega)⟩
        obtain ⟨b, off, rfl, hrow⟩ := HR.out k o ho
        have hrow1 := hrow.mod ot.mod (by simp)
        have htk := opsL_take [] s k o ho
        have HTk := Lib.hid htk
        clear ho hrow htk o1
        go_wp2_with (first | (refine wpList_load_at rfl 37 (.tmp 19) rfl _ Try.underlying37 rfl 9 infoOp b (off + k * 9) o.cells rfl hrow1 rfl ?_) | (refine wpList_store_at rfl 37 (.tmp 6) (.tmp 20) rfl 9 infoOp wr.heap.size 0 37 zeroOp o.cells rfl rfl (heap_alloc_at _ _) rfl (oneCell_op o) (Nat.le_refl 9) ?_; intro w2 hh2 hs2; obtain ⟨row2, hm2⟩ := store_op hh2 hs2; clear hh2 hs2) | (refine wpList_load_at rfl 37 (.tmp 6) rfl _ Try.underlying37 rfl 9 infoOp wr.heap.size 0 o.cells rfl row2 rfl ?_) | (go_at_call 30; refine (do_any w2 tb mb lv (opsL [] (s.take k)) o (ot.same hm2).1.tab).mono ?_; rintro e w3 hp3; obtain ⟨rfl, ot3, _, _, _⟩ := (ot.same hm2).1.op hp3; have HOT := Lib.hid ot3; clear ot3 hp3))
        go_roundw
        case rel => exact ⟨k + 1, by omega, by go_num, Lib.hid (by rw [HTk.out]; exact HOT.out)⟩
        case measure => simp [intOf]; omega
      · obtain rfl : k = n := by omega
        go_wp2
        go_ret2
        refine .inr ⟨by rw [HN.out]; omega, tb, mb, lv, rfl, ?_⟩
        rw [List.take_of_length_le (by have := HN.out; omega)] at ot
        exact ot

end Go.Proofs.Ytknkifanpppglaa
