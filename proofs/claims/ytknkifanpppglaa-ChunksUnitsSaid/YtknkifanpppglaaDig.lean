/- Equality of digests. -/
import Derived.Test.YtknkifanpppglaaHeap
namespace Go.Proofs.Ytknkifanpppglaa
open Go.RowKit

theorem info5 : (Try.prog.info? 5).map (·.size) = some 1 := by kernel_rfl
theorem info42 : (Try.prog.info? 42).map (·.size) = some 16 := by kernel_rfl
theorem guard42 : Try.prog.eqGuardType Try.prog.depth 42 = false := by kernel_rfl

theorem part_u8 (cs : Array Value) (off : Nat) (v : Value) (h : cs[off]? = some v) (w : World) : (part 5 cs off).run Try.prog w = .ok v w := by
  simp [part, isAgg, run_underlying Try.underlying5, h]

theorem size_u8 (w : World) : (sizeOf 5).run Try.prog w = .ok 1 w := by
  cases hq : Try.prog.info? 5 with
  | none => have := info5; simp [hq] at this
  | some i =>
    have hs : i.size = 1 := by have := info5; simpa [hq] using this
    simp [sizeOf, typeInfo, hq, hs]

theorem equalIn_u8 (d : Nat) (a b : Int) (w : World) : (Op.equalIn (d + 1) 5 (.int .u8 a) (.int .u8 b)).run Try.prog w = .ok (a == b) w := by
  unfold Op.equalIn
  simp [run_underlying Try.underlying5]

def digV (d : List Int) : Value := .agg (d.map (Value.int .u8)).toArray

theorem equalIn_dig (d : Nat) (a b : List Int) (ha : a.length = 16) (hb : b.length = 16) (w : World) :
    (Op.equalIn (d + 2) 42 (digV a) (digV b)).run Try.prog w = .ok (decide (a = b)) w := by
  match a, ha with
  | [a0, a1, a2, a3, a4, a5, a6, a7, a8, a9, a10, a11, a12, a13, a14, a15], _ =>
    match b, hb with
    | [b0, b1, b2, b3, b4, b5, b6, b7, b8, b9, b10, b11, b12, b13, b14, b15], _ =>
      unfold Op.equalIn
      simp [digV, run_underlying Try.underlying42]
      simp [List.range', part_u8, equalIn_u8]
      by_cases h0 : ¬ a0 = b0
      · rw [if_neg h0]; simp [h0]
      replace h0 := Decidable.not_not.1 h0
      rw [if_pos h0]
      by_cases h1 : ¬ a1 = b1
      · rw [if_neg h1]; simp [h1]
      replace h1 := Decidable.not_not.1 h1
      rw [if_pos h1]
      by_cases h2 : ¬ a2 = b2
      · rw [if_neg h2]; simp [h2]
      replace h2 := Decidable.not_not.1 h2
      rw [if_pos h2]
      by_cases h3 : ¬ a3 = b3
      · rw [if_neg h3]; simp [h3]
      replace h3 := Decidable.not_not.1 h3
      rw [if_pos h3]
      by_cases h4 : ¬ a4 = b4
      · rw [if_neg h4]; simp [h4]
      replace h4 := Decidable.not_not.1 h4
      rw [if_pos h4]
      by_cases h5 : ¬ a5 = b5
      · rw [if_neg h5]; simp [h5]
      replace h5 := Decidable.not_not.1 h5
      rw [if_pos h5]
      by_cases h6 : ¬ a6 = b6
      · rw [if_neg h6]; simp [h6]
      replace h6 := Decidable.not_not.1 h6
      rw [if_pos h6]
      by_cases h7 : ¬ a7 = b7
      · rw [if_neg h7]; simp [h7]
      replace h7 := Decidable.not_not.1 h7
      rw [if_pos h7]
      by_cases h8 : ¬ a8 = b8
      · rw [if_neg h8]; simp [h8]
      replace h8 := Decidable.not_not.1 h8
      rw [if_pos h8]
      by_cases h9 : ¬ a9 = b9
      · rw [if_neg h9]; simp [h9]
      replace h9 := Decidable.not_not.1 h9
      rw [if_pos h9]
      by_cases h10 : ¬ a10 = b10
      · rw [if_neg h10]; simp [h10]
      replace h10 := Decidable.not_not.1 h10
      rw [if_pos h10]
      by_cases h11 : ¬ a11 = b11
      · rw [if_neg h11]; simp [h11]
      replace h11 := Decidable.not_not.1 h11
      rw [if_pos h11]
      by_cases h12 : ¬ a12 = b12
      · rw [if_neg h12]; simp [h12]
      replace h12 := Decidable.not_not.1 h12
      rw [if_pos h12]
      by_cases h13 : ¬ a13 = b13
      · rw [if_neg h13]; simp [h13]
      replace h13 := Decidable.not_not.1 h13
      rw [if_pos h13]
      by_cases h14 : ¬ a14 = b14
      · rw [if_neg h14]; simp [h14]
      replace h14 := Decidable.not_not.1 h14
      rw [if_pos h14]
      by_cases h15 : ¬ a15 = b15
      · rw [if_neg h15]; simp [h15]
      replace h15 := Decidable.not_not.1 h15
      rw [if_pos h15]
      simp [h0, h1, h2, h3, h4, h5, h6, h7, h8, h9, h10, h11, h12, h13, h14, h15]

theorem equal_dig (a b : List Int) (ha : a.length = 16) (hb : b.length = 16) (w : World) : (binOp .eql 42 (digV a) (digV b)).run Try.prog w = .ok (.bool (decide (a = b))) w := by
  have h := equalIn_dig 9998 a b ha hb w
  simp only [binOp, digV]
  simp [Op.equal, Op.maxDepth]
  rw [show (10000 : Nat) = 9998 + 2 from rfl]
  unfold digV at h
  rw [h]
  rfl

theorem nequal_dig (a b : List Int) (ha : a.length = 16) (hb : b.length = 16) (w : World) : (binOp .neq 42 (digV a) (digV b)).run Try.prog w = .ok (.bool (!decide (a = b))) w := by
  have h := equalIn_dig 9998 a b ha hb w
  simp only [binOp, digV]
  simp [Op.equal, Op.maxDepth]
  rw [show (10000 : Nat) = 9998 + 2 from rfl]
  unfold digV at h
  rw [h]
  rfl

/-- the digest inside a chunk's row -/
theorem Ck.digRow {w : World} {b off : Nat} {c : Ck} {rv : Value} (h : Row w b off (c.cells rv)) : Row w b (off + 1) (c.dig.map (Value.int .u8)) := by
  intro j u hu
  rw [List.getElem?_map, Option.map_eq_some_iff] at hu
  obtain ⟨x, hx, rfl⟩ := hu
  have := h (1 + j) _ (Ck.cd rv j x hx)
  rwa [show off + (1 + j) = off + 1 + j by omega] at this

theorem digLoad {w : World} {b off : Nat} {d : List Int} (h : Row w b off (d.map (Value.int .u8))) (hd : d.length = 16) : (loadVar 42 ⟨b, off, none⟩).run Try.prog w = .ok (digV d) w :=
  run_loadVar_at w b off _ _ _ h Try.underlying42 rfl (by rw [info42]; simp [hd])

end Go.Proofs.Ytknkifanpppglaa
