/- Walks: the reference's SameChunk. -/
import Derived.Test.YtknkifanpppglaaW24
namespace Go.Proofs.Ytknkifanpppglaa
open Go.RowKit

theorem wpList_load_o {P : Program} {ops : Array Oper} {rest : List Oper} {o : Oper} {a : Act} {w : World} {Q : Exit → Act → World → Prop} (ty : TypeId) (x : Operand) (ho : o.op = .load ty x) (hw : Region.wanted o (yielded ops a.tmps) = true)
    (d : TypeDesc) (hu : P.underlying ty = some d) (hd : (match d with | .struct _ | .array _ _ => true | _ => false) = true) (n : Nat) (hi : (P.info? ty).map (·.size) = some n)
    (b off : Nat) (cs : List Value) (hx : a.eval x = .pointer (some ⟨b, off, none⟩)) (hr : Row w b off cs) (hn : cs.length = n)
    (h : wpList P ops Q rest (a.put o.dst (.agg cs.toArray)) w) : wpList P ops Q (o :: rest) a w :=
  wpList_load_at hw ty x ho d hu hd n hi b off cs hx hr hn h

theorem U3.len (u : U3) : u.cells.length = 3 := rfl

theorem nequal_unit (u v : U3) (w : World) : (binOp .neq 26 (.agg #[.int .i64 u.row, .int .i64 u.group, .int .i64 u.unit]) (.agg #[.int .i64 v.row, .int .i64 v.group, .int .i64 v.unit])).run Try.prog w = .ok (.bool (!decide (u = v))) w := by
  have h := equal_unit u v w
  simp only [binOp]
  unfold U3.val at h
  simp [h]

theorem equalIn_ref (d : Nat) (a b c e : Int) (w : World) :
    (Op.equalIn (d + 2) 113 (.agg #[.int .i64 a, .int .i64 b]) (.agg #[.int .i64 c, .int .i64 e])).run Try.prog w = .ok (a == c && b == e) w := by
  unfold Op.equalIn
  simp [run_underlying Try.underlying113, part_int, equalIn_int]
  by_cases h1 : a = c <;> by_cases h2 : b = e <;> simp [h1, h2]

theorem nequal_ref (x y : Int × Int) (w : World) : (binOp .neq 113 (.agg #[.int .i64 x.1, .int .i64 x.2]) (.agg #[.int .i64 y.1, .int .i64 y.2])).run Try.prog w = .ok (.bool (!decide (x = y))) w := by
  have h : (Op.equal 113 (.agg #[.int .i64 x.1, .int .i64 x.2]) (.agg #[.int .i64 y.1, .int .i64 y.2])).run Try.prog w = .ok (x.1 == y.1 && x.2 == y.2) w := equalIn_ref 9998 x.1 x.2 y.1 y.2 w
  obtain ⟨x1, x2⟩ := x
  obtain ⟨y1, y2⟩ := y
  simp only [binOp]
  simp [h]
  by_cases h1 : x1 = y1 <;> by_cases h2 : x2 = y2 <;> simp [h1, h2]

theorem nequal_digL {a b : List Int} (A B : List Value) (hA : A = a.map (Value.int .u8)) (hB : B = b.map (Value.int .u8)) (ha : a.length = 16) (hb : b.length = 16) (w : World) :
    (binOp .neq 42 (.agg A.toArray) (.agg B.toArray)).run Try.prog w = .ok (.bool (!decide (a = b))) w := by
  subst hA hB
  exact nequal_dig a b ha hb w

theorem Ck.posRow {w : World} {b : Nat} {c : Ck} {rv : Value} (hc : c.dig.length = 16) (h : Row w b 0 (c.cells rv)) : Row w b 18 c.pos.cells := by
  intro j u hu
  have hj : j < 3 := (List.getElem?_eq_some_iff.1 hu).1
  have := h (18 + j) u (by
    rw [Ck.ct hc rv (18 + j) (by omega), show 18 + j - 17 = j + 1 by omega]
    match j, hj with
    | 0, _ => simpa [U3.cells] using hu
    | 1, _ => simpa [U3.cells] using hu
    | 2, _ => simpa [U3.cells] using hu)
  simpa using this

set_option maxRecDepth 100000 in
set_option maxHeartbeats 1000000 in
theorem sc_ne0 (w : World) (c d : Ck) (rv ru : Value) (hc : c.dig.length = 16) (hd : d.dig.length = 16) (hrc : Refs w rv c.refs) (hrd : Refs w ru d.refs) (h0 : ¬ c.id = d.id) :
    Calls Try.prog 20 #[.agg (c.cells rv).toArray, .agg (d.cells ru).toArray] w (BoolPost false w) := by
  obtain ⟨a, cap, rfl⟩ := hrc.sliceLen
  obtain ⟨a', cap', rfl⟩ := hrd.sliceLen
  obtain ⟨CA, hCA⟩ : ∃ CA, CA = (c.cells (.slice a c.refs.length cap)).toArray := ⟨_, rfl⟩
  obtain ⟨CB, hCB⟩ : ∃ CB, CB = (d.cells (.slice a' d.refs.length cap')).toArray := ⟨_, rfl⟩
  have hm : Mod [] (w.alloc (.cells CA 45)) ((w.alloc (.cells CA 45)).alloc (.cells CB 45)) := (Mod.refl _ _).alloc _
  have r1 : Row ((w.alloc (.cells CA 45)).alloc (.cells CB 45)) w.heap.size 0 (c.cells (.slice a c.refs.length cap)) := by
    have := heap_alloc_at w (.cells CA 45)
    rw [hCA] at this
    rw [hCA] at hm
    rw [hCA]
    exact (Row.of_heap this).mod hm (by simp)
  have r2 : Row ((w.alloc (.cells CA 45)).alloc (.cells CB 45)) (w.heap.size + 1) 0 (d.cells (.slice a' d.refs.length cap')) := by
    have := heap_alloc_at (w.alloc (.cells CA 45)) (.cells CB 45)
    rw [alloc_size, hCB] at this
    rw [hCB]
    exact Row.of_heap this
  have a0 : CA[0]? = some (.int .i64 c.id) := by rw [hCA]; simpa using Ck.c0 c _
  have a17 : CA[17]? = some (.int .u32 c.print) := by rw [hCA]; simpa using Ck.c17 hc _
  have a21 : CA[21]? = some (.bool c.lost) := by rw [hCA]; simpa using Ck.c21 hc _
  have a22 : CA[22]? = some (.slice a c.refs.length cap) := by rw [hCA]; simpa using Ck.c22 hc _
  have b0 : CB[0]? = some (.int .i64 d.id) := by rw [hCB]; simpa using Ck.c0 d _
  have b17 : CB[17]? = some (.int .u32 d.print) := by rw [hCB]; simpa using Ck.c17 hd _
  have b21 : CB[21]? = some (.bool d.lost) := by rw [hCB]; simpa using Ck.c21 hd _
  have b22 : CB[22]? = some (.slice a' d.refs.length cap') := by rw [hCB]; simpa using Ck.c22 hd _
  obtain ⟨C, hC⟩ : ∃ C, C = c.dig.map (Value.int .u8) := ⟨_, rfl⟩
  obtain ⟨D, hD⟩ : ∃ D, D = d.dig.map (Value.int .u8) := ⟨_, rfl⟩
  have hCl : C.length = 16 := by rw [hC]; simp [hc]
  have hDl : D.length = 16 := by rw [hD]; simp [hd]
  have rC : Row ((w.alloc (.cells CA 45)).alloc (.cells CB 45)) w.heap.size 1 C := by rw [hC]; exact Ck.digRow r1
  have rD : Row ((w.alloc (.cells CA 45)).alloc (.cells CB 45)) (w.heap.size + 1) 1 D := by rw [hD]; exact Ck.digRow r2
  have rU : Row ((w.alloc (.cells CA 45)).alloc (.cells CB 45)) w.heap.size 18 c.pos.cells := Ck.posRow hc r1
  have rV : Row ((w.alloc (.cells CA 45)).alloc (.cells CB 45)) (w.heap.size + 1) 18 d.pos.cells := Ck.posRow hd r2
  have q1 := nequal_digL C D hC hD hc hd
  have q2 : ∀ w, (binOp .neq 26 (.agg c.pos.cells.toArray) (.agg d.pos.cells.toArray)).run Try.prog w = .ok (.bool (!decide (c.pos = d.pos))) w := nequal_unit c.pos d.pos
  have eA : (c.cells (.slice a c.refs.length cap)).toArray = CA := hCA.symm
  have eB : (d.cells (.slice a' d.refs.length cap')).toArray = CB := hCB.symm
  rw [eA, eB]
  have HCl := Lib.hid hCl
  have HDl := Lib.hid hDl
  have HRC := Lib.hid hrc
  have HRD := Lib.hid hrd
  have f0 : (c.id != d.id) = true := by simp [h0]
  clear q1
  clear q2
  clear hCA hCB hC hD hCl hDl eA eB r1 r2 hc hd hm hrc hrd
  clear h0
  go_enter Try.func20, Try.ntmps20
  go_wp2_with (first | ((with_reducible refine wpList_load_o 42 (.tmp 12) ?_ ?_ _ Try.underlying42 ?_ 16 info42 w.heap.size 1 C ?_ rC HCl.out ?_); (· rfl); (· rfl); (· rfl); (· rfl)) | ((with_reducible refine wpList_load_o 42 (.tmp 14) ?_ ?_ _ Try.underlying42 ?_ 16 info42 (w.heap.size + 1) 1 D ?_ rD HDl.out ?_); (· rfl); (· rfl); (· rfl); (· rfl)) | ((with_reducible refine wpList_load_o 26 (.tmp 26) ?_ ?_ _ Try.underlying26 ?_ 3 info26 w.heap.size 18 c.pos.cells ?_ rU (U3.len _) ?_); (· rfl); (· rfl); (· rfl); (· rfl)) | ((with_reducible refine wpList_load_o 26 (.tmp 28) ?_ ?_ _ Try.underlying26 ?_ 3 info26 (w.heap.size + 1) 18 d.pos.cells ?_ rV (U3.len _) ?_); (· rfl); (· rfl); (· rfl); (· rfl)))
  go_ret
  exact ⟨rfl, ((Mod.refl _ _).alloc _).alloc _⟩

set_option maxRecDepth 100000 in
set_option maxHeartbeats 1000000 in
theorem sc_ne1 (w : World) (c d : Ck) (rv ru : Value) (hc : c.dig.length = 16) (hd : d.dig.length = 16) (hrc : Refs w rv c.refs) (hrd : Refs w ru d.refs) (h0 : c.id = d.id) (h1 : ¬ c.dig = d.dig) :
    Calls Try.prog 20 #[.agg (c.cells rv).toArray, .agg (d.cells ru).toArray] w (BoolPost false w) := by
  obtain ⟨a, cap, rfl⟩ := hrc.sliceLen
  obtain ⟨a', cap', rfl⟩ := hrd.sliceLen
  obtain ⟨CA, hCA⟩ : ∃ CA, CA = (c.cells (.slice a c.refs.length cap)).toArray := ⟨_, rfl⟩
  obtain ⟨CB, hCB⟩ : ∃ CB, CB = (d.cells (.slice a' d.refs.length cap')).toArray := ⟨_, rfl⟩
  have hm : Mod [] (w.alloc (.cells CA 45)) ((w.alloc (.cells CA 45)).alloc (.cells CB 45)) := (Mod.refl _ _).alloc _
  have r1 : Row ((w.alloc (.cells CA 45)).alloc (.cells CB 45)) w.heap.size 0 (c.cells (.slice a c.refs.length cap)) := by
    have := heap_alloc_at w (.cells CA 45)
    rw [hCA] at this
    rw [hCA] at hm
    rw [hCA]
    exact (Row.of_heap this).mod hm (by simp)
  have r2 : Row ((w.alloc (.cells CA 45)).alloc (.cells CB 45)) (w.heap.size + 1) 0 (d.cells (.slice a' d.refs.length cap')) := by
    have := heap_alloc_at (w.alloc (.cells CA 45)) (.cells CB 45)
    rw [alloc_size, hCB] at this
    rw [hCB]
    exact Row.of_heap this
  have a0 : CA[0]? = some (.int .i64 c.id) := by rw [hCA]; simpa using Ck.c0 c _
  have a17 : CA[17]? = some (.int .u32 c.print) := by rw [hCA]; simpa using Ck.c17 hc _
  have a21 : CA[21]? = some (.bool c.lost) := by rw [hCA]; simpa using Ck.c21 hc _
  have a22 : CA[22]? = some (.slice a c.refs.length cap) := by rw [hCA]; simpa using Ck.c22 hc _
  have b0 : CB[0]? = some (.int .i64 d.id) := by rw [hCB]; simpa using Ck.c0 d _
  have b17 : CB[17]? = some (.int .u32 d.print) := by rw [hCB]; simpa using Ck.c17 hd _
  have b21 : CB[21]? = some (.bool d.lost) := by rw [hCB]; simpa using Ck.c21 hd _
  have b22 : CB[22]? = some (.slice a' d.refs.length cap') := by rw [hCB]; simpa using Ck.c22 hd _
  obtain ⟨C, hC⟩ : ∃ C, C = c.dig.map (Value.int .u8) := ⟨_, rfl⟩
  obtain ⟨D, hD⟩ : ∃ D, D = d.dig.map (Value.int .u8) := ⟨_, rfl⟩
  have hCl : C.length = 16 := by rw [hC]; simp [hc]
  have hDl : D.length = 16 := by rw [hD]; simp [hd]
  have rC : Row ((w.alloc (.cells CA 45)).alloc (.cells CB 45)) w.heap.size 1 C := by rw [hC]; exact Ck.digRow r1
  have rD : Row ((w.alloc (.cells CA 45)).alloc (.cells CB 45)) (w.heap.size + 1) 1 D := by rw [hD]; exact Ck.digRow r2
  have rU : Row ((w.alloc (.cells CA 45)).alloc (.cells CB 45)) w.heap.size 18 c.pos.cells := Ck.posRow hc r1
  have rV : Row ((w.alloc (.cells CA 45)).alloc (.cells CB 45)) (w.heap.size + 1) 18 d.pos.cells := Ck.posRow hd r2
  have q1 := nequal_digL C D hC hD hc hd
  have q2 : ∀ w, (binOp .neq 26 (.agg c.pos.cells.toArray) (.agg d.pos.cells.toArray)).run Try.prog w = .ok (.bool (!decide (c.pos = d.pos))) w := nequal_unit c.pos d.pos
  have eA : (c.cells (.slice a c.refs.length cap)).toArray = CA := hCA.symm
  have eB : (d.cells (.slice a' d.refs.length cap')).toArray = CB := hCB.symm
  rw [eA, eB]
  have HCl := Lib.hid hCl
  have HDl := Lib.hid hDl
  have HRC := Lib.hid hrc
  have HRD := Lib.hid hrd
  have f0 : (c.id != d.id) = false := by simp [h0]
  simp only [h1, decide_false, Bool.not_false] at q1
  clear q2
  clear hCA hCB hC hD hCl hDl eA eB r1 r2 hc hd hm hrc hrd
  clear h0 h1
  go_enter Try.func20, Try.ntmps20
  go_wp2_with (first | ((with_reducible refine wpList_load_o 42 (.tmp 12) ?_ ?_ _ Try.underlying42 ?_ 16 info42 w.heap.size 1 C ?_ rC HCl.out ?_); (· rfl); (· rfl); (· rfl); (· rfl)) | ((with_reducible refine wpList_load_o 42 (.tmp 14) ?_ ?_ _ Try.underlying42 ?_ 16 info42 (w.heap.size + 1) 1 D ?_ rD HDl.out ?_); (· rfl); (· rfl); (· rfl); (· rfl)) | ((with_reducible refine wpList_load_o 26 (.tmp 26) ?_ ?_ _ Try.underlying26 ?_ 3 info26 w.heap.size 18 c.pos.cells ?_ rU (U3.len _) ?_); (· rfl); (· rfl); (· rfl); (· rfl)) | ((with_reducible refine wpList_load_o 26 (.tmp 28) ?_ ?_ _ Try.underlying26 ?_ 3 info26 (w.heap.size + 1) 18 d.pos.cells ?_ rV (U3.len _) ?_); (· rfl); (· rfl); (· rfl); (· rfl)))
  go_ret
  exact ⟨rfl, ((Mod.refl _ _).alloc _).alloc _⟩

set_option maxRecDepth 100000 in
set_option maxHeartbeats 1000000 in
theorem sc_ne2 (w : World) (c d : Ck) (rv ru : Value) (hc : c.dig.length = 16) (hd : d.dig.length = 16) (hrc : Refs w rv c.refs) (hrd : Refs w ru d.refs) (h0 : c.id = d.id) (h1 : c.dig = d.dig) (h2 : ¬ c.print = d.print) :
    Calls Try.prog 20 #[.agg (c.cells rv).toArray, .agg (d.cells ru).toArray] w (BoolPost false w) := by
  obtain ⟨a, cap, rfl⟩ := hrc.sliceLen
  obtain ⟨a', cap', rfl⟩ := hrd.sliceLen
  obtain ⟨CA, hCA⟩ : ∃ CA, CA = (c.cells (.slice a c.refs.length cap)).toArray := ⟨_, rfl⟩
  obtain ⟨CB, hCB⟩ : ∃ CB, CB = (d.cells (.slice a' d.refs.length cap')).toArray := ⟨_, rfl⟩
  have hm : Mod [] (w.alloc (.cells CA 45)) ((w.alloc (.cells CA 45)).alloc (.cells CB 45)) := (Mod.refl _ _).alloc _
  have r1 : Row ((w.alloc (.cells CA 45)).alloc (.cells CB 45)) w.heap.size 0 (c.cells (.slice a c.refs.length cap)) := by
    have := heap_alloc_at w (.cells CA 45)
    rw [hCA] at this
    rw [hCA] at hm
    rw [hCA]
    exact (Row.of_heap this).mod hm (by simp)
  have r2 : Row ((w.alloc (.cells CA 45)).alloc (.cells CB 45)) (w.heap.size + 1) 0 (d.cells (.slice a' d.refs.length cap')) := by
    have := heap_alloc_at (w.alloc (.cells CA 45)) (.cells CB 45)
    rw [alloc_size, hCB] at this
    rw [hCB]
    exact Row.of_heap this
  have a0 : CA[0]? = some (.int .i64 c.id) := by rw [hCA]; simpa using Ck.c0 c _
  have a17 : CA[17]? = some (.int .u32 c.print) := by rw [hCA]; simpa using Ck.c17 hc _
  have a21 : CA[21]? = some (.bool c.lost) := by rw [hCA]; simpa using Ck.c21 hc _
  have a22 : CA[22]? = some (.slice a c.refs.length cap) := by rw [hCA]; simpa using Ck.c22 hc _
  have b0 : CB[0]? = some (.int .i64 d.id) := by rw [hCB]; simpa using Ck.c0 d _
  have b17 : CB[17]? = some (.int .u32 d.print) := by rw [hCB]; simpa using Ck.c17 hd _
  have b21 : CB[21]? = some (.bool d.lost) := by rw [hCB]; simpa using Ck.c21 hd _
  have b22 : CB[22]? = some (.slice a' d.refs.length cap') := by rw [hCB]; simpa using Ck.c22 hd _
  obtain ⟨C, hC⟩ : ∃ C, C = c.dig.map (Value.int .u8) := ⟨_, rfl⟩
  obtain ⟨D, hD⟩ : ∃ D, D = d.dig.map (Value.int .u8) := ⟨_, rfl⟩
  have hCl : C.length = 16 := by rw [hC]; simp [hc]
  have hDl : D.length = 16 := by rw [hD]; simp [hd]
  have rC : Row ((w.alloc (.cells CA 45)).alloc (.cells CB 45)) w.heap.size 1 C := by rw [hC]; exact Ck.digRow r1
  have rD : Row ((w.alloc (.cells CA 45)).alloc (.cells CB 45)) (w.heap.size + 1) 1 D := by rw [hD]; exact Ck.digRow r2
  have rU : Row ((w.alloc (.cells CA 45)).alloc (.cells CB 45)) w.heap.size 18 c.pos.cells := Ck.posRow hc r1
  have rV : Row ((w.alloc (.cells CA 45)).alloc (.cells CB 45)) (w.heap.size + 1) 18 d.pos.cells := Ck.posRow hd r2
  have q1 := nequal_digL C D hC hD hc hd
  have q2 : ∀ w, (binOp .neq 26 (.agg c.pos.cells.toArray) (.agg d.pos.cells.toArray)).run Try.prog w = .ok (.bool (!decide (c.pos = d.pos))) w := nequal_unit c.pos d.pos
  have eA : (c.cells (.slice a c.refs.length cap)).toArray = CA := hCA.symm
  have eB : (d.cells (.slice a' d.refs.length cap')).toArray = CB := hCB.symm
  rw [eA, eB]
  have HCl := Lib.hid hCl
  have HDl := Lib.hid hDl
  have HRC := Lib.hid hrc
  have HRD := Lib.hid hrd
  have f0 : (c.id != d.id) = false := by simp [h0]
  simp only [h1, decide_true, Bool.not_true] at q1
  have f2 : (c.print != d.print) = true := by simp [h2]
  clear q2
  clear hCA hCB hC hD hCl hDl eA eB r1 r2 hc hd hm hrc hrd
  clear h0 h1 h2
  go_enter Try.func20, Try.ntmps20
  go_wp2_with (first | ((with_reducible refine wpList_load_o 42 (.tmp 12) ?_ ?_ _ Try.underlying42 ?_ 16 info42 w.heap.size 1 C ?_ rC HCl.out ?_); (· rfl); (· rfl); (· rfl); (· rfl)) | ((with_reducible refine wpList_load_o 42 (.tmp 14) ?_ ?_ _ Try.underlying42 ?_ 16 info42 (w.heap.size + 1) 1 D ?_ rD HDl.out ?_); (· rfl); (· rfl); (· rfl); (· rfl)) | ((with_reducible refine wpList_load_o 26 (.tmp 26) ?_ ?_ _ Try.underlying26 ?_ 3 info26 w.heap.size 18 c.pos.cells ?_ rU (U3.len _) ?_); (· rfl); (· rfl); (· rfl); (· rfl)) | ((with_reducible refine wpList_load_o 26 (.tmp 28) ?_ ?_ _ Try.underlying26 ?_ 3 info26 (w.heap.size + 1) 18 d.pos.cells ?_ rV (U3.len _) ?_); (· rfl); (· rfl); (· rfl); (· rfl)))
  go_ret
  exact ⟨rfl, ((Mod.refl _ _).alloc _).alloc _⟩

set_option maxRecDepth 100000 in
set_option maxHeartbeats 1000000 in
theorem sc_ne3 (w : World) (c d : Ck) (rv ru : Value) (hc : c.dig.length = 16) (hd : d.dig.length = 16) (hrc : Refs w rv c.refs) (hrd : Refs w ru d.refs) (h0 : c.id = d.id) (h1 : c.dig = d.dig) (h2 : c.print = d.print) (h3 : ¬ c.pos = d.pos) :
    Calls Try.prog 20 #[.agg (c.cells rv).toArray, .agg (d.cells ru).toArray] w (BoolPost false w) := by
  obtain ⟨a, cap, rfl⟩ := hrc.sliceLen
  obtain ⟨a', cap', rfl⟩ := hrd.sliceLen
  obtain ⟨CA, hCA⟩ : ∃ CA, CA = (c.cells (.slice a c.refs.length cap)).toArray := ⟨_, rfl⟩
  obtain ⟨CB, hCB⟩ : ∃ CB, CB = (d.cells (.slice a' d.refs.length cap')).toArray := ⟨_, rfl⟩
  have hm : Mod [] (w.alloc (.cells CA 45)) ((w.alloc (.cells CA 45)).alloc (.cells CB 45)) := (Mod.refl _ _).alloc _
  have r1 : Row ((w.alloc (.cells CA 45)).alloc (.cells CB 45)) w.heap.size 0 (c.cells (.slice a c.refs.length cap)) := by
    have := heap_alloc_at w (.cells CA 45)
    rw [hCA] at this
    rw [hCA] at hm
    rw [hCA]
    exact (Row.of_heap this).mod hm (by simp)
  have r2 : Row ((w.alloc (.cells CA 45)).alloc (.cells CB 45)) (w.heap.size + 1) 0 (d.cells (.slice a' d.refs.length cap')) := by
    have := heap_alloc_at (w.alloc (.cells CA 45)) (.cells CB 45)
    rw [alloc_size, hCB] at this
    rw [hCB]
    exact Row.of_heap this
  have a0 : CA[0]? = some (.int .i64 c.id) := by rw [hCA]; simpa using Ck.c0 c _
  have a17 : CA[17]? = some (.int .u32 c.print) := by rw [hCA]; simpa using Ck.c17 hc _
  have a21 : CA[21]? = some (.bool c.lost) := by rw [hCA]; simpa using Ck.c21 hc _
  have a22 : CA[22]? = some (.slice a c.refs.length cap) := by rw [hCA]; simpa using Ck.c22 hc _
  have b0 : CB[0]? = some (.int .i64 d.id) := by rw [hCB]; simpa using Ck.c0 d _
  have b17 : CB[17]? = some (.int .u32 d.print) := by rw [hCB]; simpa using Ck.c17 hd _
  have b21 : CB[21]? = some (.bool d.lost) := by rw [hCB]; simpa using Ck.c21 hd _
  have b22 : CB[22]? = some (.slice a' d.refs.length cap') := by rw [hCB]; simpa using Ck.c22 hd _
  obtain ⟨C, hC⟩ : ∃ C, C = c.dig.map (Value.int .u8) := ⟨_, rfl⟩
  obtain ⟨D, hD⟩ : ∃ D, D = d.dig.map (Value.int .u8) := ⟨_, rfl⟩
  have hCl : C.length = 16 := by rw [hC]; simp [hc]
  have hDl : D.length = 16 := by rw [hD]; simp [hd]
  have rC : Row ((w.alloc (.cells CA 45)).alloc (.cells CB 45)) w.heap.size 1 C := by rw [hC]; exact Ck.digRow r1
  have rD : Row ((w.alloc (.cells CA 45)).alloc (.cells CB 45)) (w.heap.size + 1) 1 D := by rw [hD]; exact Ck.digRow r2
  have rU : Row ((w.alloc (.cells CA 45)).alloc (.cells CB 45)) w.heap.size 18 c.pos.cells := Ck.posRow hc r1
  have rV : Row ((w.alloc (.cells CA 45)).alloc (.cells CB 45)) (w.heap.size + 1) 18 d.pos.cells := Ck.posRow hd r2
  have q1 := nequal_digL C D hC hD hc hd
  have q2 : ∀ w, (binOp .neq 26 (.agg c.pos.cells.toArray) (.agg d.pos.cells.toArray)).run Try.prog w = .ok (.bool (!decide (c.pos = d.pos))) w := nequal_unit c.pos d.pos
  have eA : (c.cells (.slice a c.refs.length cap)).toArray = CA := hCA.symm
  have eB : (d.cells (.slice a' d.refs.length cap')).toArray = CB := hCB.symm
  rw [eA, eB]
  have HCl := Lib.hid hCl
  have HDl := Lib.hid hDl
  have HRC := Lib.hid hrc
  have HRD := Lib.hid hrd
  have f0 : (c.id != d.id) = false := by simp [h0]
  simp only [h1, decide_true, Bool.not_true] at q1
  have f2 : (c.print != d.print) = false := by simp [h2]
  simp only [h3, decide_false, Bool.not_false] at q2
  clear hCA hCB hC hD hCl hDl eA eB r1 r2 hc hd hm hrc hrd
  clear h0 h1 h2 h3
  go_enter Try.func20, Try.ntmps20
  go_wp2_with (first | ((with_reducible refine wpList_load_o 42 (.tmp 12) ?_ ?_ _ Try.underlying42 ?_ 16 info42 w.heap.size 1 C ?_ rC HCl.out ?_); (· rfl); (· rfl); (· rfl); (· rfl)) | ((with_reducible refine wpList_load_o 42 (.tmp 14) ?_ ?_ _ Try.underlying42 ?_ 16 info42 (w.heap.size + 1) 1 D ?_ rD HDl.out ?_); (· rfl); (· rfl); (· rfl); (· rfl)) | ((with_reducible refine wpList_load_o 26 (.tmp 26) ?_ ?_ _ Try.underlying26 ?_ 3 info26 w.heap.size 18 c.pos.cells ?_ rU (U3.len _) ?_); (· rfl); (· rfl); (· rfl); (· rfl)) | ((with_reducible refine wpList_load_o 26 (.tmp 28) ?_ ?_ _ Try.underlying26 ?_ 3 info26 (w.heap.size + 1) 18 d.pos.cells ?_ rV (U3.len _) ?_); (· rfl); (· rfl); (· rfl); (· rfl)))
  go_ret
  exact ⟨rfl, ((Mod.refl _ _).alloc _).alloc _⟩

set_option maxRecDepth 100000 in
set_option maxHeartbeats 1000000 in
theorem sc_ne4 (w : World) (c d : Ck) (rv ru : Value) (hc : c.dig.length = 16) (hd : d.dig.length = 16) (hrc : Refs w rv c.refs) (hrd : Refs w ru d.refs) (h0 : c.id = d.id) (h1 : c.dig = d.dig) (h2 : c.print = d.print) (h3 : c.pos = d.pos) (h4 : ¬ c.lost = d.lost) :
    Calls Try.prog 20 #[.agg (c.cells rv).toArray, .agg (d.cells ru).toArray] w (BoolPost false w) := by
  obtain ⟨a, cap, rfl⟩ := hrc.sliceLen
  obtain ⟨a', cap', rfl⟩ := hrd.sliceLen
  obtain ⟨CA, hCA⟩ : ∃ CA, CA = (c.cells (.slice a c.refs.length cap)).toArray := ⟨_, rfl⟩
  obtain ⟨CB, hCB⟩ : ∃ CB, CB = (d.cells (.slice a' d.refs.length cap')).toArray := ⟨_, rfl⟩
  have hm : Mod [] (w.alloc (.cells CA 45)) ((w.alloc (.cells CA 45)).alloc (.cells CB 45)) := (Mod.refl _ _).alloc _
  have r1 : Row ((w.alloc (.cells CA 45)).alloc (.cells CB 45)) w.heap.size 0 (c.cells (.slice a c.refs.length cap)) := by
    have := heap_alloc_at w (.cells CA 45)
    rw [hCA] at this
    rw [hCA] at hm
    rw [hCA]
    exact (Row.of_heap this).mod hm (by simp)
  have r2 : Row ((w.alloc (.cells CA 45)).alloc (.cells CB 45)) (w.heap.size + 1) 0 (d.cells (.slice a' d.refs.length cap')) := by
    have := heap_alloc_at (w.alloc (.cells CA 45)) (.cells CB 45)
    rw [alloc_size, hCB] at this
    rw [hCB]
    exact Row.of_heap this
  have a0 : CA[0]? = some (.int .i64 c.id) := by rw [hCA]; simpa using Ck.c0 c _
  have a17 : CA[17]? = some (.int .u32 c.print) := by rw [hCA]; simpa using Ck.c17 hc _
  have a21 : CA[21]? = some (.bool c.lost) := by rw [hCA]; simpa using Ck.c21 hc _
  have a22 : CA[22]? = some (.slice a c.refs.length cap) := by rw [hCA]; simpa using Ck.c22 hc _
  have b0 : CB[0]? = some (.int .i64 d.id) := by rw [hCB]; simpa using Ck.c0 d _
  have b17 : CB[17]? = some (.int .u32 d.print) := by rw [hCB]; simpa using Ck.c17 hd _
  have b21 : CB[21]? = some (.bool d.lost) := by rw [hCB]; simpa using Ck.c21 hd _
  have b22 : CB[22]? = some (.slice a' d.refs.length cap') := by rw [hCB]; simpa using Ck.c22 hd _
  obtain ⟨C, hC⟩ : ∃ C, C = c.dig.map (Value.int .u8) := ⟨_, rfl⟩
  obtain ⟨D, hD⟩ : ∃ D, D = d.dig.map (Value.int .u8) := ⟨_, rfl⟩
  have hCl : C.length = 16 := by rw [hC]; simp [hc]
  have hDl : D.length = 16 := by rw [hD]; simp [hd]
  have rC : Row ((w.alloc (.cells CA 45)).alloc (.cells CB 45)) w.heap.size 1 C := by rw [hC]; exact Ck.digRow r1
  have rD : Row ((w.alloc (.cells CA 45)).alloc (.cells CB 45)) (w.heap.size + 1) 1 D := by rw [hD]; exact Ck.digRow r2
  have rU : Row ((w.alloc (.cells CA 45)).alloc (.cells CB 45)) w.heap.size 18 c.pos.cells := Ck.posRow hc r1
  have rV : Row ((w.alloc (.cells CA 45)).alloc (.cells CB 45)) (w.heap.size + 1) 18 d.pos.cells := Ck.posRow hd r2
  have q1 := nequal_digL C D hC hD hc hd
  have q2 : ∀ w, (binOp .neq 26 (.agg c.pos.cells.toArray) (.agg d.pos.cells.toArray)).run Try.prog w = .ok (.bool (!decide (c.pos = d.pos))) w := nequal_unit c.pos d.pos
  have eA : (c.cells (.slice a c.refs.length cap)).toArray = CA := hCA.symm
  have eB : (d.cells (.slice a' d.refs.length cap')).toArray = CB := hCB.symm
  rw [eA, eB]
  have HCl := Lib.hid hCl
  have HDl := Lib.hid hDl
  have HRC := Lib.hid hrc
  have HRD := Lib.hid hrd
  have f0 : (c.id != d.id) = false := by simp [h0]
  simp only [h1, decide_true, Bool.not_true] at q1
  have f2 : (c.print != d.print) = false := by simp [h2]
  simp only [decide_eq_true h3, Bool.not_true] at q2
  have f4 : (c.lost == d.lost) = false := by simp [h4]
  clear hCA hCB hC hD hCl hDl eA eB r1 r2 hc hd hm hrc hrd
  clear h0 h1 h2 h3 h4
  go_enter Try.func20, Try.ntmps20
  go_wp2_with (first | ((with_reducible refine wpList_load_o 42 (.tmp 12) ?_ ?_ _ Try.underlying42 ?_ 16 info42 w.heap.size 1 C ?_ rC HCl.out ?_); (· rfl); (· rfl); (· rfl); (· rfl)) | ((with_reducible refine wpList_load_o 42 (.tmp 14) ?_ ?_ _ Try.underlying42 ?_ 16 info42 (w.heap.size + 1) 1 D ?_ rD HDl.out ?_); (· rfl); (· rfl); (· rfl); (· rfl)) | ((with_reducible refine wpList_load_o 26 (.tmp 26) ?_ ?_ _ Try.underlying26 ?_ 3 info26 w.heap.size 18 c.pos.cells ?_ rU (U3.len _) ?_); (· rfl); (· rfl); (· rfl); (· rfl)) | ((with_reducible refine wpList_load_o 26 (.tmp 28) ?_ ?_ _ Try.underlying26 ?_ 3 info26 (w.heap.size + 1) 18 d.pos.cells ?_ rV (U3.len _) ?_); (· rfl); (· rfl); (· rfl); (· rfl)))
  go_ret
  exact ⟨rfl, ((Mod.refl _ _).alloc _).alloc _⟩

set_option maxRecDepth 100000 in
set_option maxHeartbeats 1000000 in
theorem sc_ne5 (w : World) (c d : Ck) (rv ru : Value) (hc : c.dig.length = 16) (hd : d.dig.length = 16) (hrc : Refs w rv c.refs) (hrd : Refs w ru d.refs) (h0 : c.id = d.id) (h1 : c.dig = d.dig) (h2 : c.print = d.print) (h3 : c.pos = d.pos) (h4 : c.lost = d.lost) (h5 : ¬ c.refs.length = d.refs.length) :
    Calls Try.prog 20 #[.agg (c.cells rv).toArray, .agg (d.cells ru).toArray] w (BoolPost false w) := by
  obtain ⟨a, cap, rfl⟩ := hrc.sliceLen
  obtain ⟨a', cap', rfl⟩ := hrd.sliceLen
  obtain ⟨CA, hCA⟩ : ∃ CA, CA = (c.cells (.slice a c.refs.length cap)).toArray := ⟨_, rfl⟩
  obtain ⟨CB, hCB⟩ : ∃ CB, CB = (d.cells (.slice a' d.refs.length cap')).toArray := ⟨_, rfl⟩
  have hm : Mod [] (w.alloc (.cells CA 45)) ((w.alloc (.cells CA 45)).alloc (.cells CB 45)) := (Mod.refl _ _).alloc _
  have r1 : Row ((w.alloc (.cells CA 45)).alloc (.cells CB 45)) w.heap.size 0 (c.cells (.slice a c.refs.length cap)) := by
    have := heap_alloc_at w (.cells CA 45)
    rw [hCA] at this
    rw [hCA] at hm
    rw [hCA]
    exact (Row.of_heap this).mod hm (by simp)
  have r2 : Row ((w.alloc (.cells CA 45)).alloc (.cells CB 45)) (w.heap.size + 1) 0 (d.cells (.slice a' d.refs.length cap')) := by
    have := heap_alloc_at (w.alloc (.cells CA 45)) (.cells CB 45)
    rw [alloc_size, hCB] at this
    rw [hCB]
    exact Row.of_heap this
  have a0 : CA[0]? = some (.int .i64 c.id) := by rw [hCA]; simpa using Ck.c0 c _
  have a17 : CA[17]? = some (.int .u32 c.print) := by rw [hCA]; simpa using Ck.c17 hc _
  have a21 : CA[21]? = some (.bool c.lost) := by rw [hCA]; simpa using Ck.c21 hc _
  have a22 : CA[22]? = some (.slice a c.refs.length cap) := by rw [hCA]; simpa using Ck.c22 hc _
  have b0 : CB[0]? = some (.int .i64 d.id) := by rw [hCB]; simpa using Ck.c0 d _
  have b17 : CB[17]? = some (.int .u32 d.print) := by rw [hCB]; simpa using Ck.c17 hd _
  have b21 : CB[21]? = some (.bool d.lost) := by rw [hCB]; simpa using Ck.c21 hd _
  have b22 : CB[22]? = some (.slice a' d.refs.length cap') := by rw [hCB]; simpa using Ck.c22 hd _
  obtain ⟨C, hC⟩ : ∃ C, C = c.dig.map (Value.int .u8) := ⟨_, rfl⟩
  obtain ⟨D, hD⟩ : ∃ D, D = d.dig.map (Value.int .u8) := ⟨_, rfl⟩
  have hCl : C.length = 16 := by rw [hC]; simp [hc]
  have hDl : D.length = 16 := by rw [hD]; simp [hd]
  have rC : Row ((w.alloc (.cells CA 45)).alloc (.cells CB 45)) w.heap.size 1 C := by rw [hC]; exact Ck.digRow r1
  have rD : Row ((w.alloc (.cells CA 45)).alloc (.cells CB 45)) (w.heap.size + 1) 1 D := by rw [hD]; exact Ck.digRow r2
  have rU : Row ((w.alloc (.cells CA 45)).alloc (.cells CB 45)) w.heap.size 18 c.pos.cells := Ck.posRow hc r1
  have rV : Row ((w.alloc (.cells CA 45)).alloc (.cells CB 45)) (w.heap.size + 1) 18 d.pos.cells := Ck.posRow hd r2
  have q1 := nequal_digL C D hC hD hc hd
  have q2 : ∀ w, (binOp .neq 26 (.agg c.pos.cells.toArray) (.agg d.pos.cells.toArray)).run Try.prog w = .ok (.bool (!decide (c.pos = d.pos))) w := nequal_unit c.pos d.pos
  have eA : (c.cells (.slice a c.refs.length cap)).toArray = CA := hCA.symm
  have eB : (d.cells (.slice a' d.refs.length cap')).toArray = CB := hCB.symm
  rw [eA, eB]
  have HCl := Lib.hid hCl
  have HDl := Lib.hid hDl
  have HRC := Lib.hid hrc
  have HRD := Lib.hid hrd
  have f0 : (c.id != d.id) = false := by simp [h0]
  simp only [h1, decide_true, Bool.not_true] at q1
  have f2 : (c.print != d.print) = false := by simp [h2]
  simp only [decide_eq_true h3, Bool.not_true] at q2
  have f4 : (c.lost == d.lost) = true := by simp [h4]
  have f5 : ((c.refs.length : Int) != (d.refs.length : Int)) = true := bne_iff_ne.2 (by omega)
  clear hCA hCB hC hD hCl hDl eA eB r1 r2 hc hd hm hrc hrd
  clear h0 h1 h2 h3 h4 h5
  go_enter Try.func20, Try.ntmps20
  go_wp2_with (first | ((with_reducible refine wpList_load_o 42 (.tmp 12) ?_ ?_ _ Try.underlying42 ?_ 16 info42 w.heap.size 1 C ?_ rC HCl.out ?_); (· rfl); (· rfl); (· rfl); (· rfl)) | ((with_reducible refine wpList_load_o 42 (.tmp 14) ?_ ?_ _ Try.underlying42 ?_ 16 info42 (w.heap.size + 1) 1 D ?_ rD HDl.out ?_); (· rfl); (· rfl); (· rfl); (· rfl)) | ((with_reducible refine wpList_load_o 26 (.tmp 26) ?_ ?_ _ Try.underlying26 ?_ 3 info26 w.heap.size 18 c.pos.cells ?_ rU (U3.len _) ?_); (· rfl); (· rfl); (· rfl); (· rfl)) | ((with_reducible refine wpList_load_o 26 (.tmp 28) ?_ ?_ _ Try.underlying26 ?_ 3 info26 (w.heap.size + 1) 18 d.pos.cells ?_ rV (U3.len _) ?_); (· rfl); (· rfl); (· rfl); (· rfl)))
  go_ret
  exact ⟨rfl, ((Mod.refl _ _).alloc _).alloc _⟩

theorem take_sameR {xs ys : List (Int × Int)} {k : Nat} {x y : Int × Int} (hx : xs[k]? = some x) (hy : ys[k]? = some y) (h : xs.take k = ys.take k) : xs.take (k + 1) = ys.take (k + 1) ↔ x = y := by
  rw [take_snoc' hx, take_snoc' hy, h]
  simp

theorem Refs.cell {w : World} {a : Option Addr} {n cap : Nat} {r : List (Int × Int)} (h : Refs w (.slice a n cap) r) {k : Nat} {x : Int × Int} (hx : r[k]? = some x) : ∃ b, a = some ⟨b, 0, none⟩ ∧ Row w b (k * 2) [.int .i64 x.1, .int .i64 x.2] := by
  rcases h.shape with ⟨h1, rfl⟩ | ⟨b, cap', h1, _, _, _, h2⟩
  · simp at hx
  · cases h1; exact ⟨b, rfl, h2 k x hx⟩

set_option maxRecDepth 100000 in
set_option maxHeartbeats 1000000 in
theorem sc_eq (w : World) (c d : Ck) (rv ru : Value) (r : Bool) (hc : c.dig.length = 16) (hd : d.dig.length = 16) (hrc : Refs w rv c.refs) (hrd : Refs w ru d.refs) (h0 : c.id = d.id) (h1 : c.dig = d.dig) (h2 : c.print = d.print) (h3 : c.pos = d.pos) (h4 : c.lost = d.lost) (h5 : c.refs.length = d.refs.length) (hr : r = decide (c.refs = d.refs)) (hl : c.refs.length ≤ 9223372036854775807) :
    Calls Try.prog 20 #[.agg (c.cells rv).toArray, .agg (d.cells ru).toArray] w (BoolPost r w) := by
  obtain ⟨a, cap, rfl⟩ := hrc.sliceLen
  obtain ⟨a', cap', rfl⟩ := hrd.sliceLen
  obtain ⟨CA, hCA⟩ : ∃ CA, CA = (c.cells (.slice a c.refs.length cap)).toArray := ⟨_, rfl⟩
  obtain ⟨CB, hCB⟩ : ∃ CB, CB = (d.cells (.slice a' d.refs.length cap')).toArray := ⟨_, rfl⟩
  have hm : Mod [] (w.alloc (.cells CA 45)) ((w.alloc (.cells CA 45)).alloc (.cells CB 45)) := (Mod.refl _ _).alloc _
  have r1 : Row ((w.alloc (.cells CA 45)).alloc (.cells CB 45)) w.heap.size 0 (c.cells (.slice a c.refs.length cap)) := by
    have := heap_alloc_at w (.cells CA 45)
    rw [hCA] at this
    rw [hCA] at hm
    rw [hCA]
    exact (Row.of_heap this).mod hm (by simp)
  have r2 : Row ((w.alloc (.cells CA 45)).alloc (.cells CB 45)) (w.heap.size + 1) 0 (d.cells (.slice a' d.refs.length cap')) := by
    have := heap_alloc_at (w.alloc (.cells CA 45)) (.cells CB 45)
    rw [alloc_size, hCB] at this
    rw [hCB]
    exact Row.of_heap this
  have a0 : CA[0]? = some (.int .i64 c.id) := by rw [hCA]; simpa using Ck.c0 c _
  have a17 : CA[17]? = some (.int .u32 c.print) := by rw [hCA]; simpa using Ck.c17 hc _
  have a21 : CA[21]? = some (.bool c.lost) := by rw [hCA]; simpa using Ck.c21 hc _
  have a22 : CA[22]? = some (.slice a c.refs.length cap) := by rw [hCA]; simpa using Ck.c22 hc _
  have b0 : CB[0]? = some (.int .i64 d.id) := by rw [hCB]; simpa using Ck.c0 d _
  have b17 : CB[17]? = some (.int .u32 d.print) := by rw [hCB]; simpa using Ck.c17 hd _
  have b21 : CB[21]? = some (.bool d.lost) := by rw [hCB]; simpa using Ck.c21 hd _
  have b22 : CB[22]? = some (.slice a' d.refs.length cap') := by rw [hCB]; simpa using Ck.c22 hd _
  obtain ⟨C, hC⟩ : ∃ C, C = c.dig.map (Value.int .u8) := ⟨_, rfl⟩
  obtain ⟨D, hD⟩ : ∃ D, D = d.dig.map (Value.int .u8) := ⟨_, rfl⟩
  have hCl : C.length = 16 := by rw [hC]; simp [hc]
  have hDl : D.length = 16 := by rw [hD]; simp [hd]
  have rC : Row ((w.alloc (.cells CA 45)).alloc (.cells CB 45)) w.heap.size 1 C := by rw [hC]; exact Ck.digRow r1
  have rD : Row ((w.alloc (.cells CA 45)).alloc (.cells CB 45)) (w.heap.size + 1) 1 D := by rw [hD]; exact Ck.digRow r2
  have rU : Row ((w.alloc (.cells CA 45)).alloc (.cells CB 45)) w.heap.size 18 c.pos.cells := Ck.posRow hc r1
  have rV : Row ((w.alloc (.cells CA 45)).alloc (.cells CB 45)) (w.heap.size + 1) 18 d.pos.cells := Ck.posRow hd r2
  have q1 := nequal_digL C D hC hD hc hd
  have q2 : ∀ w, (binOp .neq 26 (.agg c.pos.cells.toArray) (.agg d.pos.cells.toArray)).run Try.prog w = .ok (.bool (!decide (c.pos = d.pos))) w := nequal_unit c.pos d.pos
  have eA : (c.cells (.slice a c.refs.length cap)).toArray = CA := hCA.symm
  have eB : (d.cells (.slice a' d.refs.length cap')).toArray = CB := hCB.symm
  rw [eA, eB]
  have HCl := Lib.hid hCl
  have HDl := Lib.hid hDl
  have HRC := Lib.hid hrc
  have HRD := Lib.hid hrd
  have f0 : (c.id != d.id) = false := by simp [h0]
  simp only [h1, decide_true, Bool.not_true] at q1
  have f2 : (c.print != d.print) = false := by simp [h2]
  simp only [decide_eq_true h3, Bool.not_true] at q2
  have f4 : (c.lost == d.lost) = true := by simp [h4]
  have hr1 : Refs ((w.alloc (.cells CA 45)).alloc (.cells CB 45)) (.slice a c.refs.length cap) c.refs := hrc.mod0 (((Mod.refl _ _).alloc _).alloc _)
  have hr2 : Refs ((w.alloc (.cells CA 45)).alloc (.cells CB 45)) (.slice a' d.refs.length cap') d.refs := hrd.mod0 (((Mod.refl _ _).alloc _).alloc _)
  have w22 := r1 22 _ (Ck.c22 hc _)
  have v22 := r2 22 _ (Ck.c22 hd _)
  obtain ⟨n, hn⟩ : ∃ n, c.refs.length = n := ⟨_, rfl⟩
  have hn2 : d.refs.length = n := by rw [← h5, hn]
  rw [hn] at hr1 w22 a22 hl
  rw [hn2] at hr2 v22 b22
  have H1 := Lib.hid hr1
  have H2 := Lib.hid hr2
  have HN := Lib.hid hn
  have HN2 := Lib.hid hn2
  have HR := Lib.hid hr
  clear hr1 hr2 hn hn2 hr
  clear h0 h1 h2 h3 h4 h5
  clear hCA hCB hC hD hCl hDl eA eB r1 r2 hc hd hm hrc hrd
  go_enter Try.func20, Try.ntmps20
  go_wp2_with (first | ((with_reducible refine wpList_load_o 42 (.tmp 12) ?_ ?_ _ Try.underlying42 ?_ 16 info42 w.heap.size 1 C ?_ rC HCl.out ?_); (· rfl); (· rfl); (· rfl); (· rfl)) | ((with_reducible refine wpList_load_o 42 (.tmp 14) ?_ ?_ _ Try.underlying42 ?_ 16 info42 (w.heap.size + 1) 1 D ?_ rD HDl.out ?_); (· rfl); (· rfl); (· rfl); (· rfl)) | ((with_reducible refine wpList_load_o 26 (.tmp 26) ?_ ?_ _ Try.underlying26 ?_ 3 info26 w.heap.size 18 c.pos.cells ?_ rU (U3.len _) ?_); (· rfl); (· rfl); (· rfl); (· rfl)) | ((with_reducible refine wpList_load_o 26 (.tmp 28) ?_ ?_ _ Try.underlying26 ?_ 3 info26 (w.heap.size + 1) 18 d.pos.cells ?_ rV (U3.len _) ?_); (· rfl); (· rfl); (· rfl); (· rfl)))
  obtain ⟨w1, hw1⟩ : ∃ w1, w1 = (w.alloc (.cells CA 45)).alloc (.cells CB 45) := ⟨_, rfl⟩
  have hm1 : Mod [] w w1 := by rw [hw1]; exact ((Mod.refl _ _).alloc _).alloc _
  rw [← hw1]
  rw [← hw1] at H1 H2 w22 v22
  clear hw1 rC rD rU rV q1 q2 a0 a17 a21 a22 b0 b17 b21 b22 f0 f2 f4
  go_loopw [5] (fun s5 wr => ∃ k : Nat, k ≤ n ∧ s5 = .int .i64 k ∧ Hid (c.refs.take k = d.refs.take k) ∧ Mod [] w1 wr) (fun s5 _ => n - (intOf s5).toNat)
  case atStart => exact ⟨0, by omega, rfl, Lib.hid (by simp), Mod.refl _ _⟩
  case round =>
    obtain ⟨k, hk, rfl, HT, hmr⟩ := hrel
    have z22 := hmr.cell w22 (by simp)
    have y22 := hmr.cell v22 (by simp)
    rw [Nat.zero_add] at z22 y22
    by_cases hlt : k < n
    · obtain ⟨x, hx⟩ : ∃ x, c.refs[k]? = some x := ⟨_, List.getElem?_eq_getElem (by have := HN.out; omega)⟩
      obtain ⟨y, hy⟩ : ∃ y, d.refs[k]? = some y := ⟨_, List.getElem?_eq_getElem (by have := HN2.out; omega)⟩
      obtain ⟨b, rfl, rx⟩ := H1.out.cell hx
      obtain ⟨b', rfl, ry⟩ := H2.out.cell hy
      have cx0 := (rx.mod hmr (by simp)).at0 _ rfl
      have cx1 := (rx.mod hmr (by simp)).at 1 _ rfl
      have cy0 := (ry.mod hmr (by simp)).at0 _ rfl
      have cy1 := (ry.mod hmr (by simp)).at 1 _ rfl
      have hts := take_sameR hx hy HT.out
      have HS := Lib.hid hts
      have hxy : decide (c.refs = d.refs) = true → x = y := by
        intro h
        have e : c.refs = d.refs := of_decide_eq_true h
        rw [e, hy] at hx; cases hx; rfl
      have HXY := Lib.hid hxy
      have hq := nequal_ref x y
      have hi0 : (0 : Int) ≤ (k : Int) := by omega
      have hi1 : (k : Int) < (n : Int) := by omega
      clear hx hy hts hxy w22 v22 rx ry
      by_cases he : x = y
      · simp only [he, decide_true, Bool.not_true] at hq
        have HE := Lib.hid he
        clear he
        rw [← HE.out] at hq
        rw [HE.out] at cx0 cx1
        rw [HE.out] at hq
        go_wp2
        go_quiet (fail)
        go_wp2
        go_roundw
        case rel => exact ⟨k + 1, by omega, by go_num, Lib.hid (HS.out.2 HE.out), hmr.drewN _⟩
        case measure => simp [intOf]; omega
      · simp only [he, decide_false, Bool.not_false] at hq
        have HE := Lib.hid he
        clear he
        go_wp2
        go_quiet (fail)
        go_wp2
        go_ret
        obtain rfl : r = false := by
          rw [HR.out]
          cases h : decide (c.refs = d.refs) with
          | false => rfl
          | true => exact absurd (HXY.out h) HE.out
        exact ⟨rfl, hm1.trans_nil (hmr.drewN _)⟩
    · obtain rfl : k = n := by omega
      go_wp2
      go_ret
      have h1 := HT.out
      rw [List.take_of_length_le (by rw [HN.out]; omega), List.take_of_length_le (by rw [HN2.out]; omega)] at h1
      obtain rfl : r = true := by rw [HR.out]; simpa using h1
      exact ⟨rfl, hm1.trans_nil hmr⟩

theorem sameChunk_any (w : World) (c d : Ck) (rv ru : Value) (hc : c.dig.length = 16) (hd : d.dig.length = 16) (hrc : Refs w rv c.refs) (hrd : Refs w ru d.refs) :
    Calls Try.prog 20 #[.agg (c.cells rv).toArray, .agg (d.cells ru).toArray] w (BoolPost (decide (c = d)) w) := by
  have hl : c.refs.length ≤ 9223372036854775807 := by
    rcases hrc.shape with ⟨h1, h2⟩ | ⟨b, cap, h1, _, h2, h3, _⟩
    · rw [h2]; simp
    · unfold maxLen at h3; omega
  by_cases h0 : c.id = d.id
  · by_cases h1 : c.dig = d.dig
    · by_cases h2 : c.print = d.print
      · by_cases h3 : c.pos = d.pos
        · by_cases h4 : c.lost = d.lost
          · by_cases h5 : c.refs.length = d.refs.length
            · refine sc_eq w c d rv ru _ hc hd hrc hrd h0 h1 h2 h3 h4 h5 ?_ hl
              obtain ⟨c0, c1, c2, c3, c4, c5⟩ := c
              obtain ⟨d0, d1, d2, d3, d4, d5⟩ := d
              simp only at h0 h1 h2 h3 h4
              subst h0 h1 h2 h3 h4
              simp
            · have : decide (c = d) = false := by simpa using fun e => h5 (by rw [e])
              rw [this]; exact sc_ne5 w c d rv ru hc hd hrc hrd h0 h1 h2 h3 h4 h5
          · have : decide (c = d) = false := by simpa using fun e => h4 (by rw [e])
            rw [this]; exact sc_ne4 w c d rv ru hc hd hrc hrd h0 h1 h2 h3 h4
        · have : decide (c = d) = false := by simpa using fun e => h3 (by rw [e])
          rw [this]; exact sc_ne3 w c d rv ru hc hd hrc hrd h0 h1 h2 h3
      · have : decide (c = d) = false := by simpa using fun e => h2 (by rw [e])
        rw [this]; exact sc_ne2 w c d rv ru hc hd hrc hrd h0 h1 h2
    · have : decide (c = d) = false := by simpa using fun e => h1 (by rw [e])
      rw [this]; exact sc_ne1 w c d rv ru hc hd hrc hrd h0 h1
  · have : decide (c = d) = false := by simpa using fun e => h0 (by rw [e])
    rw [this]; exact sc_ne0 w c d rv ru hc hd hrc hrd h0

end Go.Proofs.Ytknkifanpppglaa
