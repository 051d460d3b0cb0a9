/- Walks: valid, isTenant. -/
import Derived.Test.YtknkifanpppglaaW8
namespace Go.Proofs.Ytknkifanpppglaa
open Go.RowKit

def withinB (n m : Int) : Bool := decide (0 ≤ n) && decide (n < m)

theorem within_any (n m : Int) (w : World) : Calls Try.prog 109 #[.int .i64 n, .int .i64 m] w fun e w' => e = .returned (.bool (withinB n m)) ∧ w = w' := by
  by_cases h : 0 ≤ n
  · go_enter Try.func109, Try.ntmps109
    go_wp2
    go_ret
    exact ⟨by simp [withinB, h], rfl⟩
  · go_enter Try.func109, Try.ntmps109
    go_wp2
    go_ret
    exact ⟨by simp [withinB]; omega, rfl⟩

theorem isTenant_any (n : Int) (w : World) : Calls Try.prog 94 #[.int .i64 n] w fun e w' => e = .returned (.bool (tenB n)) ∧ w = w' := by
  by_cases h : 0 ≤ n
  · go_enter Try.func94, Try.ntmps94
    go_wp2
    go_ret
    exact ⟨by simp [tenB, h], rfl⟩
  · go_enter Try.func94, Try.ntmps94
    go_wp2
    go_ret
    exact ⟨by simp [tenB]; omega, rfl⟩

theorem within_is {n m : Int} {r : Bool} (h : withinB n m = r) (w : World) : Calls Try.prog 109 #[.int .i64 n, .int .i64 m] w fun e w' => e = .returned (.bool r) ∧ w = w' := h ▸ within_any n m w

set_option maxHeartbeats 2000000 in
theorem valid_any (u : U3) (w : World) : Calls Try.prog 67 #[.agg #[.int .i64 u.row, .int .i64 u.group, .int .i64 u.unit]] w fun e w' => e = .returned (.bool u.ok) ∧ Mod [] w w' := by
  have e : u.ok = (withinB u.row 4096 && withinB u.group 64 && withinB u.unit 32) := rfl
  generalize u.ok = r at *
  have HE := Lib.hid e
  clear e
  cases h1 : withinB u.row 4096 with
  | false =>
    have H1 := Lib.hid h1
    clear h1
    go_enter Try.func67, Try.ntmps67
    go_wp2_with (go_at_call 109; refine (within_is H1.out _).mono ?_; rintro e w1 ⟨rfl, rfl⟩)
    go_ret
    exact ⟨by rw [HE.out, H1.out]; rfl, (Mod.refl _ _).alloc _⟩
  | true =>
    have H1 := Lib.hid h1
    clear h1
    cases h2 : withinB u.group 64 with
    | false =>
      have H2 := Lib.hid h2
      clear h2
      go_enter Try.func67, Try.ntmps67
      go_wp2_with fail
      refine (within_is H1.out _).mono ?_
      rintro e w1 ⟨rfl, rfl⟩
      go_wp2_with fail
      refine (within_is H2.out _).mono ?_
      rintro e w1 ⟨rfl, rfl⟩
      go_wp2_with fail
      go_ret
      exact ⟨by rw [HE.out, H1.out, H2.out]; rfl, (Mod.refl _ _).alloc _⟩
    | true =>
      have H2 := Lib.hid h2
      clear h2
      cases h3 : withinB u.unit 32
      all_goals
        have H3 := Lib.hid h3
        clear h3
        go_enter Try.func67, Try.ntmps67
        go_wp2_with fail
        refine (within_is H1.out _).mono ?_
        rintro e w1 ⟨rfl, rfl⟩
        go_wp2_with fail
        refine (within_is H2.out _).mono ?_
        rintro e w1 ⟨rfl, rfl⟩
        go_wp2_with fail
        refine (within_is H3.out _).mono ?_
        rintro e w1 ⟨rfl, rfl⟩
        go_wp2_with fail
        go_ret
        exact ⟨by rw [HE.out, H1.out, H2.out, H3.out]; rfl, (Mod.refl _ _).alloc _⟩

end Go.Proofs.Ytknkifanpppglaa
