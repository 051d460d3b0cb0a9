/- Walks: leave, Lose, Move. -/
import Derived.Test.YtknkifanpppglaaW6
import Derived.Test.YtknkifanpppglaaSet
import Derived.StillTailTactics
namespace Go.Proofs.Ytknkifanpppglaa
open Go.RowKit

def LeavePost (M : List (U3 × Int)) (mb : Nat) (c : Ck) (w : World) (e : Ending) (w' : World) : Prop :=
  e = .returned (.tuple #[]) ∧ MapIs w' mb (if c.lost then M else mdel M c.pos) ∧ Mod [mb] w w'

set_option maxRecDepth 100000 in
set_option maxHeartbeats 1000000 in
theorem leave_any (w : World) (tb mb b k : Nat) (c : Ck) (rv : Value) (M : List (U3 × Int)) (c1 : w.cell? ⟨tb, 1, none⟩ = some (.map (some mb))) (hrow : Row w b (k * 23) (c.cells rv)) (hd : c.dig.length = 16) (hM : MapIs w mb M) :
    Calls Try.prog 66 #[.pointer (some ⟨tb, 0, none⟩), .pointer (some ⟨b, k * 23, none⟩)] w (LeavePost M mb c w) := by
  have c21 := hrow 21 _ (Ck.c21 hd rv)
  have c18 := hrow 18 _ (Ck.c18 hd rv)
  have c19 := hrow 19 _ (Ck.c19 hd rv)
  have c20 := hrow 20 _ (Ck.c20 hd rv)
  have HM := Lib.hid hM
  clear hrow hM hd
  cases hl : c.lost with
  | true =>
    rw [hl] at c21
    have HL := Lib.hid hl
    clear hl
    go_enter Try.func66, Try.ntmps66
    go_wp2
    go_end0
    exact ⟨rfl, by rw [HL.out]; exact HM.out, Mod.refl _ _⟩
  | false =>
    rw [hl] at c21
    have HL := Lib.hid hl
    clear hl
    go_enter Try.func66, Try.ntmps66
    go_wp2_with fail
    go_still_tail 8, (by kernel_rfl)
    go_wp2_with (refine wpList_delete_unit rfl (.tmp 12) (.tmp 16) rfl mb c.pos M rfl rfl (HM.out.mod ((Mod.refl [] w).drew) (by simp)) ?_; intro w2 hM2 hm2)
    go_end0
    exact ⟨rfl, by rw [HL.out]; exact hM2, ((Mod.refl [mb] w).drew).trans hm2 (by simp)⟩

end Go.Proofs.Ytknkifanpppglaa
