/- Walks: New; the reference's Digest, Same. -/
import Derived.Test.YtknkifanpppglaaMC
import Derived.Test.YtknkifanpppglaaMB
import Derived.Deep.RegionHeld3
import Derived.Laws.BitsAllLaws
import Derived.Deep.RegionLaw
import Derived.Deep.DeepCutAuto
namespace Go.Proofs.Ytknkifanpppglaa
open Go.RowKit

def NewPost (w : World) (e : Ending) (w' : World) : Prop := ∃ tb mb, e = .returned (.pointer (some ⟨tb, 0, none⟩)) ∧ Tab w' tb mb nilV [] ∧ Mod [] w w' ∧ w.heap.size ≤ tb ∧ w.heap.size ≤ mb

theorem inv_nil : Inv [] := ⟨List.Pairwise.nil, fun c hc => by simp at hc, List.Pairwise.nil⟩

theorem new_any (w : World) : Calls Try.prog 29 #[] w (NewPost w) := by
  have hmm := @run_makeMap Try.prog
  go_enter Try.func29, Try.ntmps29
  go_wp2
  go_ret
  have h0 := heap_alloc_at w (.map #[] 0)
  have h1 := heap_alloc_at (w.alloc (.map #[] 0)) (.cells #[nilV, .map (some w.heap.size)] 120)
  rw [alloc_size] at h1
  have hm : Mod [] (w.alloc (.map #[] 0)) ((w.alloc (.map #[] 0)).alloc (.cells #[nilV, .map (some w.heap.size)] 120)) := (Mod.refl _ _).alloc _
  refine ⟨w.heap.size + 1, w.heap.size, rfl, ⟨[], [], h1, ⟨Own.nil _ _ _, fun p hp => by simp at hp⟩, rfl, ⟨#[], 0, hm.heap h0 (by simp), rfl, List.Pairwise.nil⟩, fun u => rfl, inv_nil⟩, ((Mod.refl [] w).alloc _).trans_nil hm, by omega, by omega⟩

def DigPost (d : Int) (w : World) (e : Ending) (w' : World) : Prop := e = .returned (digV (digOf d)) ∧ Mod [] w w'

theorem zeroDig (w : World) : (zeroValue 42).run Try.prog w = .ok (digV (digOf 0)) w := by kernel_rfl

def digPart (d : Int) (k : Nat) : List Value := List.replicate k (.int .u8 d) ++ List.replicate (16 - k) (.int .u8 0)
theorem digPart_set (d : Int) (k : Nat) (h : k < 16) : (digPart d k).set k (.int .u8 d) = digPart d (k + 1) := by
  unfold digPart
  rw [List.set_append_right _ _ (by simp), List.length_replicate, Nat.sub_self, show 16 - k = (16 - (k + 1)) + 1 by omega, List.replicate_succ, List.set_cons_zero, List.replicate_succ']
  simp
theorem digPart_end (d : Int) : digPart d 16 = (digOf d).map (Value.int .u8) := by simp [digPart, digOf]
theorem digPart_len (d : Int) (k : Nat) (h : k ≤ 16) : (digPart d k).length = 16 := by simp [digPart]; omega

set_option maxHeartbeats 1000000 in
theorem digest_any (d : Int) (w : World) : Calls Try.prog 25 #[.int .u8 d] w (DigPost d w) := by
  go_enter Try.func25, Try.ntmps25
  go_wp2
  have h0 := heap_alloc_at w (.cells (digPart 0 16).toArray 42)
  have h1 := heap_alloc_at (w.alloc (.cells (digPart 0 16).toArray 42)) (.cells (digPart d 0).toArray 42)
  rw [alloc_size] at h1
  have hm : Mod [] (w.alloc (.cells (digPart 0 16).toArray 42)) ((w.alloc (.cells (digPart 0 16).toArray 42)).alloc (.cells (digPart d 0).toArray 42)) := (Mod.refl _ _).alloc _
  have HA := Lib.hid (hm.heap h0 (by simp))
  have HB := Lib.hid h1
  clear h0 h1 hm
  go_loopw [4] (fun s4 wr => ∃ k : Nat, k ≤ 16 ∧ s4 = .int .i64 k ∧ Hid (wr.heap[w.heap.size]? = some (.cells (digPart 0 16).toArray 42 (0, 0))) ∧ Hid (wr.heap[w.heap.size + 1]? = some (.cells (digPart d k).toArray 42 (0, 0))) ∧ Mod [] w wr) (fun s4 _ => 16 - (intOf s4).toNat)
  case atStart => exact ⟨0, by omega, rfl, HA, HB, ((Mod.refl _ _).alloc _).alloc _⟩
  case round =>
    obtain ⟨k, hk, rfl, H0, H1, hm⟩ := hrel
    have hl := digPart_len d k hk
    by_cases hlt : k < 16
    · go_wp2_with (refine wpList_store1 rfl 5 (.tmp 11) (.tmp 10) rfl info5 (w.heap.size + 1) k 42 (digPart d k) (.int .u8 d) rfl rfl H1.out rfl (by omega) ?_; intro w2 hh2 hm2; have HH2 := Lib.hid hh2; clear hh2)
      go_roundw
      case rel =>
        refine ⟨k + 1, by omega, by go_num, Lib.hid (hm2.heap H0.out (by simp)), ?_, hm.trans hm2 (by simp)⟩
        show _ = _
        rw [← digPart_set d k hlt]; exact HH2.out
      case measure => simp [intOf]; omega
    · obtain rfl : k = 16 := by omega
      have hr := Row.of_heap H1.out
      rw [digPart_end] at hr
      have hdl : ((digOf d).map (Value.int .u8)).length = 16 := by simp [digOf]
      go_wp2_with (first | (refine wpList_load_at rfl 42 (.tmp 3) rfl _ Try.underlying42 rfl 16 info42 (w.heap.size + 1) 0 ((digOf d).map (Value.int .u8)) rfl hr hdl ?_) | (refine wpList_store_at rfl 42 (.tmp 2) (.tmp 12) rfl 16 info42 w.heap.size 0 42 (digPart 0 16) ((digOf d).map (Value.int .u8)) rfl rfl H0.out hdl (by intro u hu; simp [digOf] at hu; subst hu; rfl) (by simp [digPart, digOf]) ?_; intro w2 hh2 hm2; have HH2 := Lib.hid hh2; clear hh2))
      have hr2 := Row.of_heap (cs := (digOf d).map (Value.int .u8)) (by rw [HH2.out, splice_all _ _ (by simp [digPart, digOf])])
      have hl2 := digLoad hr2 (by simp [digOf])
      exact bodyPost_ret (results_cell1 Try.results25 _ _ _ _ rfl hl2) rfl ⟨rfl, hm.trans hm2 (by simp)⟩

/-- a slice of numbers that can be read: nil, or a row of cells -/
theorem Ints.shape {w : World} {v : Value} {xs : List Int} (h : Ints w v xs) :
    (v = .slice none 0 0 ∧ xs = []) ∨ ∃ b cap, v = .slice (some ⟨b, 0, none⟩) xs.length cap ∧ b < w.heap.size ∧ xs.length ≤ cap ∧ cap ≤ maxLen ∧ ∀ k x, xs[k]? = some x → w.cell? ⟨b, k, none⟩ = some (.int .i64 x) := by
  have h1 : Own w 3 1 v (xs.map fun x => [Value.int .i64 x]) := h
  rcases Own.shape h1 with ⟨h2, h3⟩ | ⟨b, cap, cur, h2, h3, h4, h5, h6, h7, h8⟩
  · exact .inl ⟨h2, by simpa using h3⟩
  · rw [List.length_map] at h2 h4
    refine .inr ⟨b, cap, h2, h3, h4, h5, fun k x hx => ?_⟩
    rw [h2] at h1
    have := Own.row h1 k [Value.int .i64 x] (by simp [hx])
    have := this.at0 _ rfl
    simpa using this

end Go.Proofs.Ytknkifanpppglaa

/- Walks: the reference's Same. -/
namespace Go.Proofs.Ytknkifanpppglaa
open Go.RowKit

def BoolPost (b : Bool) (w : World) (e : Ending) (w' : World) : Prop := e = .returned (.bool b) ∧ Mod [] w w'

theorem take_same {xs ys : List Int} {k : Nat} {x y : Int} (hx : xs[k]? = some x) (hy : ys[k]? = some y) (h : xs.take k = ys.take k) : xs.take (k + 1) = ys.take (k + 1) ↔ x = y := by
  rw [take_snoc' hx, take_snoc' hy, h]
  simp

set_option maxHeartbeats 1000000 in
theorem same_any (w : World) (v u : Value) (xs ys : List Int) (hv : Ints w v xs) (hu : Ints w u ys) :
    Calls Try.prog 21 #[v, u] w (BoolPost (decide (xs = ys)) w) := by
  obtain ⟨r, hr⟩ : ∃ r, decide (xs = ys) = r := ⟨_, rfl⟩
  have hs : ∃ a c, v = .slice a xs.length c := by rcases hv.shape with ⟨rfl, rfl⟩ | ⟨b, cap, rfl, _⟩ <;> exact ⟨_, _, rfl⟩
  have ht : ∃ a c, u = .slice a ys.length c := by rcases hu.shape with ⟨rfl, rfl⟩ | ⟨b, cap, rfl, _⟩ <;> exact ⟨_, _, rfl⟩
  obtain ⟨a, c, rfl⟩ := hs
  obtain ⟨a', c', rfl⟩ := ht
  have hxl : xs.length ≤ 9223372036854775807 := by
    rcases hv.shape with ⟨h1, rfl⟩ | ⟨b, cap, h1, _, h2, h3, _⟩
    · simp
    · unfold maxLen at h3; omega
  by_cases hlen : xs.length = ys.length
  · have hcx : ∀ k x, xs[k]? = some x → ∃ b, a = some ⟨b, 0, none⟩ ∧ w.cell? ⟨b, k, none⟩ = some (.int .i64 x) := by
      intro k x hx
      rcases hv.shape with ⟨h1, rfl⟩ | ⟨b, cap, h1, _, _, _, h2⟩
      · simp at hx
      · cases h1; exact ⟨b, rfl, h2 k x hx⟩
    have hcy : ∀ k x, ys[k]? = some x → ∃ b, a' = some ⟨b, 0, none⟩ ∧ w.cell? ⟨b, k, none⟩ = some (.int .i64 x) := by
      intro k x hx
      rcases hu.shape with ⟨h1, rfl⟩ | ⟨b, cap, h1, _, _, _, h2⟩
      · simp at hx
      · cases h1; exact ⟨b, rfl, h2 k x hx⟩
    rw [hr]
    obtain ⟨n, hn⟩ : ∃ n, xs.length = n := ⟨_, rfl⟩
    rw [← hlen, hn]
    rw [hn] at hxl
    have HN := Lib.hid hn
    have HL := Lib.hid hlen
    have HR := Lib.hid hr
    have HX := Lib.hid hcx
    have HY := Lib.hid hcy
    clear hn hlen hr hcx hcy hv hu
    go_enter Try.func21, Try.ntmps21
    go_wp2
    go_loopw [5] (fun s5 wr => ∃ k : Nat, k ≤ n ∧ s5 = .int .i64 k ∧ Hid (xs.take k = ys.take k) ∧ Mod [] w wr) (fun s5 _ => n - (intOf s5).toNat)
    case atStart => exact ⟨0, by omega, rfl, Lib.hid (by simp), Mod.refl _ _⟩
    case round =>
      obtain ⟨k, hk, rfl, HT, hm⟩ := hrel
      by_cases hlt : k < n
      · obtain ⟨x, hx⟩ : ∃ x, xs[k]? = some x := ⟨_, List.getElem?_eq_getElem (by have := HN.out; omega)⟩
        obtain ⟨y, hy⟩ : ∃ y, ys[k]? = some y := ⟨_, List.getElem?_eq_getElem (by have := HN.out; have := HL.out; omega)⟩
        obtain ⟨b, rfl, cx⟩ := HX.out k x hx
        obtain ⟨b', rfl, cy⟩ := HY.out k y hy
        have cx' := hm.cell cx (by simp)
        have cy' := hm.cell cy (by simp)
        have hts := take_same hx hy HT.out
        have HS := Lib.hid hts
        have hxy : decide (xs = ys) = true → x = y := by
          intro h
          have e : xs = ys := of_decide_eq_true h
          rw [e, hy] at hx; cases hx; rfl
        have HXY := Lib.hid hxy
        clear hx hy hts hxy cx cy
        have hi0 : (0 : Int) ≤ (k : Int) := by omega
        have hi1 : (k : Int) < (n : Int) := by omega
        by_cases he : x = y
        · subst he
          go_wp2
          go_quiet (fail)
          go_wp2
          go_roundw
          case rel => exact ⟨k + 1, by omega, by go_num, Lib.hid (HS.out.2 (by simp)), hm.drewN _⟩
          case measure => simp [intOf]; omega
        · have hne : (x != y) = true := by simpa using he
          have HE := Lib.hid he
          clear he
          go_wp2
          go_quiet (fail)
          go_wp2
          go_ret
          obtain rfl : r = false := by
            cases h : r with
            | false => rfl
            | true => exact absurd (HXY.out (HR.out.trans h)) HE.out
          exact ⟨rfl, hm.drewN _⟩
      · obtain rfl : k = n := by omega
        go_wp2
        go_ret
        have h1 := HT.out
        rw [List.take_of_length_le (by rw [HN.out]; omega), List.take_of_length_le (by rw [← HL.out, HN.out]; omega)] at h1
        obtain rfl : r = true := by rw [← HR.out]; simpa using h1
        exact ⟨rfl, hm⟩
  · have hf : decide (xs = ys) = false := by simpa using fun e => hlen (by rw [e])
    have HF := Lib.hid hf
    rw [hf]
    have hn1 : ((xs.length : Int) != (ys.length : Int)) = true := bne_iff_ne.2 (by omega)
    clear hv hu hf hr hlen
    go_enter Try.func21, Try.ntmps21
    go_wp2
    go_ret
    exact ⟨rfl, Mod.refl _ _⟩

end Go.Proofs.Ytknkifanpppglaa

/- Walks: the reference's SameChunk. -/
namespace Go.Proofs.Ytknkifanpppglaa
open Go.RowKit

theorem wpList_load_o {P : Program} {ops : Array Oper} {rest : List Oper} {o : Oper} {a : Act} {w : World} {Q : Exit → Act → World → Prop} (ty : TypeId) (x : Operand) (ho : o.op = .load ty x) (hw : Region.wanted o (yielded ops a.tmps) = true)
    (d : TypeDesc) (hu : P.underlying ty = some d) (hd : (match d with | .struct _ | .array _ _ => true | _ => false) = true) (n : Nat) (hi : (P.info? ty).map (·.size) = some n)
    (b off : Nat) (cs : List Value) (hx : a.eval x = .pointer (some ⟨b, off, none⟩)) (hr : Row w b off cs) (hn : cs.length = n)
    (h : wpList P ops Q rest (a.put o.dst (.agg cs.toArray)) w) : wpList P ops Q (o :: rest) a w :=
  wpList_load_at hw ty x ho d hu hd n hi b off cs hx hr hn h

theorem U3.len (u : U3) : u.cells.length = 3 := rfl

theorem nequal_unit (u v : U3) (w : World) : (binOp .neq 26 (.agg #[.int .i64 u.row, .int .i64 u.group, .int .i64 u.unit]) (.agg #[.int .i64 v.row, .int .i64 v.group, .int .i64 v.unit])).run Try.prog w = .ok (.bool (!decide (u = v))) w := by
  have h := equal_unit u v w
  simp only [binOp]
  unfold U3.val at h
  simp [h]

theorem equalIn_ref (d : Nat) (a b c e : Int) (w : World) :
    (Op.equalIn (d + 2) 113 (.agg #[.int .i64 a, .int .i64 b]) (.agg #[.int .i64 c, .int .i64 e])).run Try.prog w = .ok (a == c && b == e) w := by
  unfold Op.equalIn
  simp [run_underlying Try.underlying113, part_int, equalIn_int]
  by_cases h1 : a = c <;> by_cases h2 : b = e <;> simp [h1, h2]

theorem nequal_ref (x y : Int × Int) (w : World) : (binOp .neq 113 (.agg #[.int .i64 x.1, .int .i64 x.2]) (.agg #[.int .i64 y.1, .int .i64 y.2])).run Try.prog w = .ok (.bool (!decide (x = y))) w := by
  have h : (Op.equal 113 (.agg #[.int .i64 x.1, .int .i64 x.2]) (.agg #[.int .i64 y.1, .int .i64 y.2])).run Try.prog w = .ok (x.1 == y.1 && x.2 == y.2) w := equalIn_ref 9998 x.1 x.2 y.1 y.2 w
  obtain ⟨x1, x2⟩ := x
  obtain ⟨y1, y2⟩ := y
  simp only [binOp]
  simp [h]
  by_cases h1 : x1 = y1 <;> by_cases h2 : x2 = y2 <;> simp [h1, h2]

theorem nequal_digL {a b : List Int} (A B : List Value) (hA : A = a.map (Value.int .u8)) (hB : B = b.map (Value.int .u8)) (ha : a.length = 16) (hb : b.length = 16) (w : World) :
    (binOp .neq 42 (.agg A.toArray) (.agg B.toArray)).run Try.prog w = .ok (.bool (!decide (a = b))) w := by
  subst hA hB
  exact nequal_dig a b ha hb w

theorem Ck.posRow {w : World} {b : Nat} {c : Ck} {rv : Value} (hc : c.dig.length = 16) (h : Row w b 0 (c.cells rv)) : Row w b 18 c.pos.cells := by
  intro j u hu
  have hj : j < 3 := (List.getElem?_eq_some_iff.1 hu).1
  have := h (18 + j) u (by
    rw [Ck.ct hc rv (18 + j) (by omega), show 18 + j - 17 = j + 1 by omega]
    match j, hj with
    | 0, _ => simpa [U3.cells] using hu
    | 1, _ => simpa [U3.cells] using hu
    | 2, _ => simpa [U3.cells] using hu)
  simpa using this

set_option maxRecDepth 100000 in
set_option maxHeartbeats 1000000 in
theorem sc_ne0 (w : World) (c d : Ck) (rv ru : Value) (hc : c.dig.length = 16) (hd : d.dig.length = 16) (hrc : Refs w rv c.refs) (hrd : Refs w ru d.refs) (h0 : ¬ c.id = d.id) :
    Calls Try.prog 20 #[.agg (c.cells rv).toArray, .agg (d.cells ru).toArray] w (BoolPost false w) := by
  obtain ⟨a, cap, rfl⟩ := hrc.sliceLen
  obtain ⟨a', cap', rfl⟩ := hrd.sliceLen
  obtain ⟨CA, hCA⟩ : ∃ CA, CA = (c.cells (.slice a c.refs.length cap)).toArray := ⟨_, rfl⟩
  obtain ⟨CB, hCB⟩ : ∃ CB, CB = (d.cells (.slice a' d.refs.length cap')).toArray := ⟨_, rfl⟩
  have hm : Mod [] (w.alloc (.cells CA 45)) ((w.alloc (.cells CA 45)).alloc (.cells CB 45)) := (Mod.refl _ _).alloc _
  have r1 : Row ((w.alloc (.cells CA 45)).alloc (.cells CB 45)) w.heap.size 0 (c.cells (.slice a c.refs.length cap)) := by
    have := heap_alloc_at w (.cells CA 45)
    rw [hCA] at this
    rw [hCA] at hm
    rw [hCA]
    exact (Row.of_heap this).mod hm (by simp)
  have r2 : Row ((w.alloc (.cells CA 45)).alloc (.cells CB 45)) (w.heap.size + 1) 0 (d.cells (.slice a' d.refs.length cap')) := by
    have := heap_alloc_at (w.alloc (.cells CA 45)) (.cells CB 45)
    rw [alloc_size, hCB] at this
    rw [hCB]
    exact Row.of_heap this
  have a0 : CA[0]? = some (.int .i64 c.id) := by rw [hCA]; simpa using Ck.c0 c _
  have a17 : CA[17]? = some (.int .u32 c.print) := by rw [hCA]; simpa using Ck.c17 hc _
  have a21 : CA[21]? = some (.bool c.lost) := by rw [hCA]; simpa using Ck.c21 hc _
  have a22 : CA[22]? = some (.slice a c.refs.length cap) := by rw [hCA]; simpa using Ck.c22 hc _
  have b0 : CB[0]? = some (.int .i64 d.id) := by rw [hCB]; simpa using Ck.c0 d _
  have b17 : CB[17]? = some (.int .u32 d.print) := by rw [hCB]; simpa using Ck.c17 hd _
  have b21 : CB[21]? = some (.bool d.lost) := by rw [hCB]; simpa using Ck.c21 hd _
  have b22 : CB[22]? = some (.slice a' d.refs.length cap') := by rw [hCB]; simpa using Ck.c22 hd _
  obtain ⟨C, hC⟩ : ∃ C, C = c.dig.map (Value.int .u8) := ⟨_, rfl⟩
  obtain ⟨D, hD⟩ : ∃ D, D = d.dig.map (Value.int .u8) := ⟨_, rfl⟩
  have hCl : C.length = 16 := by rw [hC]; simp [hc]
  have hDl : D.length = 16 := by rw [hD]; simp [hd]
  have rC : Row ((w.alloc (.cells CA 45)).alloc (.cells CB 45)) w.heap.size 1 C := by rw [hC]; exact Ck.digRow r1
  have rD : Row ((w.alloc (.cells CA 45)).alloc (.cells CB 45)) (w.heap.size + 1) 1 D := by rw [hD]; exact Ck.digRow r2
  have rU : Row ((w.alloc (.cells CA 45)).alloc (.cells CB 45)) w.heap.size 18 c.pos.cells := Ck.posRow hc r1
  have rV : Row ((w.alloc (.cells CA 45)).alloc (.cells CB 45)) (w.heap.size + 1) 18 d.pos.cells := Ck.posRow hd r2
  have q1 := nequal_digL C D hC hD hc hd
  have q2 : ∀ w, (binOp .neq 26 (.agg c.pos.cells.toArray) (.agg d.pos.cells.toArray)).run Try.prog w = .ok (.bool (!decide (c.pos = d.pos))) w := nequal_unit c.pos d.pos
  have eA : (c.cells (.slice a c.refs.length cap)).toArray = CA := hCA.symm
  have eB : (d.cells (.slice a' d.refs.length cap')).toArray = CB := hCB.symm
  rw [eA, eB]
  have HCl := Lib.hid hCl
  have HDl := Lib.hid hDl
  have HRC := Lib.hid hrc
  have HRD := Lib.hid hrd
  have f0 : (c.id != d.id) = true := by simp [h0]
  clear q1
  clear q2
  clear hCA hCB hC hD hCl hDl eA eB r1 r2 hc hd hm hrc hrd
  clear h0
  go_enter Try.func20, Try.ntmps20
  go_wp2_with (first | ((with_reducible refine wpList_load_o 42 (.tmp 12) ?_ ?_ _ Try.underlying42 ?_ 16 info42 w.heap.size 1 C ?_ rC HCl.out ?_); (· rfl); (· rfl); (· rfl); (· rfl)) | ((with_reducible refine wpList_load_o 42 (.tmp 14) ?_ ?_ _ Try.underlying42 ?_ 16 info42 (w.heap.size + 1) 1 D ?_ rD HDl.out ?_); (· rfl); (· rfl); (· rfl); (· rfl)) | ((with_reducible refine wpList_load_o 26 (.tmp 26) ?_ ?_ _ Try.underlying26 ?_ 3 info26 w.heap.size 18 c.pos.cells ?_ rU (U3.len _) ?_); (· rfl); (· rfl); (· rfl); (· rfl)) | ((with_reducible refine wpList_load_o 26 (.tmp 28) ?_ ?_ _ Try.underlying26 ?_ 3 info26 (w.heap.size + 1) 18 d.pos.cells ?_ rV (U3.len _) ?_); (· rfl); (· rfl); (· rfl); (· rfl)))
  go_ret
  exact ⟨rfl, ((Mod.refl _ _).alloc _).alloc _⟩

set_option maxRecDepth 100000 in
set_option maxHeartbeats 1000000 in
theorem sc_ne1 (w : World) (c d : Ck) (rv ru : Value) (hc : c.dig.length = 16) (hd : d.dig.length = 16) (hrc : Refs w rv c.refs) (hrd : Refs w ru d.refs) (h0 : c.id = d.id) (h1 : ¬ c.dig = d.dig) :
    Calls Try.prog 20 #[.agg (c.cells rv).toArray, .agg (d.cells ru).toArray] w (BoolPost false w) := by
  obtain ⟨a, cap, rfl⟩ := hrc.sliceLen
  obtain ⟨a', cap', rfl⟩ := hrd.sliceLen
  obtain ⟨CA, hCA⟩ : ∃ CA, CA = (c.cells (.slice a c.refs.length cap)).toArray := ⟨_, rfl⟩
  obtain ⟨CB, hCB⟩ : ∃ CB, CB = (d.cells (.slice a' d.refs.length cap')).toArray := ⟨_, rfl⟩
  have hm : Mod [] (w.alloc (.cells CA 45)) ((w.alloc (.cells CA 45)).alloc (.cells CB 45)) := (Mod.refl _ _).alloc _
  have r1 : Row ((w.alloc (.cells CA 45)).alloc (.cells CB 45)) w.heap.size 0 (c.cells (.slice a c.refs.length cap)) := by
    have := heap_alloc_at w (.cells CA 45)
    rw [hCA] at this
    rw [hCA] at hm
    rw [hCA]
    exact (Row.of_heap this).mod hm (by simp)
  have r2 : Row ((w.alloc (.cells CA 45)).alloc (.cells CB 45)) (w.heap.size + 1) 0 (d.cells (.slice a' d.refs.length cap')) := by
    have := heap_alloc_at (w.alloc (.cells CA 45)) (.cells CB 45)
    rw [alloc_size, hCB] at this
    rw [hCB]
    exact Row.of_heap this
  have a0 : CA[0]? = some (.int .i64 c.id) := by rw [hCA]; simpa using Ck.c0 c _
  have a17 : CA[17]? = some (.int .u32 c.print) := by rw [hCA]; simpa using Ck.c17 hc _
  have a21 : CA[21]? = some (.bool c.lost) := by rw [hCA]; simpa using Ck.c21 hc _
  have a22 : CA[22]? = some (.slice a c.refs.length cap) := by rw [hCA]; simpa using Ck.c22 hc _
  have b0 : CB[0]? = some (.int .i64 d.id) := by rw [hCB]; simpa using Ck.c0 d _
  have b17 : CB[17]? = some (.int .u32 d.print) := by rw [hCB]; simpa using Ck.c17 hd _
  have b21 : CB[21]? = some (.bool d.lost) := by rw [hCB]; simpa using Ck.c21 hd _
  have b22 : CB[22]? = some (.slice a' d.refs.length cap') := by rw [hCB]; simpa using Ck.c22 hd _
  obtain ⟨C, hC⟩ : ∃ C, C = c.dig.map (Value.int .u8) := ⟨_, rfl⟩
  obtain ⟨D, hD⟩ : ∃ D, D = d.dig.map (Value.int .u8) := ⟨_, rfl⟩
  have hCl : C.length = 16 := by rw [hC]; simp [hc]
  have hDl : D.length = 16 := by rw [hD]; simp [hd]
  have rC : Row ((w.alloc (.cells CA 45)).alloc (.cells CB 45)) w.heap.size 1 C := by rw [hC]; exact Ck.digRow r1
  have rD : Row ((w.alloc (.cells CA 45)).alloc (.cells CB 45)) (w.heap.size + 1) 1 D := by rw [hD]; exact Ck.digRow r2
  have rU : Row ((w.alloc (.cells CA 45)).alloc (.cells CB 45)) w.heap.size 18 c.pos.cells := Ck.posRow hc r1
  have rV : Row ((w.alloc (.cells CA 45)).alloc (.cells CB 45)) (w.heap.size + 1) 18 d.pos.cells := Ck.posRow hd r2
  have q1 := nequal_digL C D hC hD hc hd
  have q2 : ∀ w, (binOp .neq 26 (.agg c.pos.cells.toArray) (.agg d.pos.cells.toArray)).run Try.prog w = .ok (.bool (!decide (c.pos = d.pos))) w := nequal_unit c.pos d.pos
  have eA : (c.cells (.slice a c.refs.length cap)).toArray = CA := hCA.symm
  have eB : (d.cells (.slice a' d.refs.length cap')).toArray = CB := hCB.symm
  rw [eA, eB]
  have HCl := Lib.hid hCl
  have HDl := Lib.hid hDl
  have HRC := Lib.hid hrc
  have HRD := Lib.hid hrd
  have f0 : (c.id != d.id) = false := by simp [h0]
  simp only [h1, decide_false, Bool.not_false] at q1
  clear q2
  clear hCA hCB hC hD hCl hDl eA eB r1 r2 hc hd hm hrc hrd
  clear h0 h1
  go_enter Try.func20, Try.ntmps20
  go_wp2_with (first | ((with_reducible refine wpList_load_o 42 (.tmp 12) ?_ ?_ _ Try.underlying42 ?_ 16 info42 w.heap.size 1 C ?_ rC HCl.out ?_); (· rfl); (· rfl); (· rfl); (· rfl)) | ((with_reducible refine wpList_load_o 42 (.tmp 14) ?_ ?_ _ Try.underlying42 ?_ 16 info42 (w.heap.size + 1) 1 D ?_ rD HDl.out ?_); (· rfl); (· rfl); (· rfl); (· rfl)) | ((with_reducible refine wpList_load_o 26 (.tmp 26) ?_ ?_ _ Try.underlying26 ?_ 3 info26 w.heap.size 18 c.pos.cells ?_ rU (U3.len _) ?_); (· rfl); (· rfl); (· rfl); (· rfl)) | ((with_reducible refine wpList_load_o 26 (.tmp 28) ?_ ?_ _ Try.underlying26 ?_ 3 info26 (w.heap.size + 1) 18 d.pos.cells ?_ rV (U3.len _) ?_); (· rfl); (· rfl); (· rfl); (· rfl)))
  go_ret
  exact ⟨rfl, ((Mod.refl _ _).alloc _).alloc _⟩

set_option maxRecDepth 100000 in
set_option maxHeartbeats 1000000 in
theorem sc_ne2 (w : World) (c d : Ck) (rv ru : Value) (hc : c.dig.length = 16) (hd : d.dig.length = 16) (hrc : Refs w rv c.refs) (hrd : Refs w ru d.refs) (h0 : c.id = d.id) (h1 : c.dig = d.dig) (h2 : ¬ c.print = d.print) :
    Calls Try.prog 20 #[.agg (c.cells rv).toArray, .agg (d.cells ru).toArray] w (BoolPost false w) := by
  obtain ⟨a, cap, rfl⟩ := hrc.sliceLen
  obtain ⟨a', cap', rfl⟩ := hrd.sliceLen
  obtain ⟨CA, hCA⟩ : ∃ CA, CA = (c.cells (.slice a c.refs.length cap)).toArray := ⟨_, rfl⟩
  obtain ⟨CB, hCB⟩ : ∃ CB, CB = (d.cells (.slice a' d.refs.length cap')).toArray := ⟨_, rfl⟩
  have hm : Mod [] (w.alloc (.cells CA 45)) ((w.alloc (.cells CA 45)).alloc (.cells CB 45)) := (Mod.refl _ _).alloc _
  have r1 : Row ((w.alloc (.cells CA 45)).alloc (.cells CB 45)) w.heap.size 0 (c.cells (.slice a c.refs.length cap)) := by
    have := heap_alloc_at w (.cells CA 45)
    rw [hCA] at this
    rw [hCA] at hm
    rw [hCA]
    exact (Row.of_heap this).mod hm (by simp)
  have r2 : Row ((w.alloc (.cells CA 45)).alloc (.cells CB 45)) (w.heap.size + 1) 0 (d.cells (.slice a' d.refs.length cap')) := by
    have := heap_alloc_at (w.alloc (.cells CA 45)) (.cells CB 45)
    rw [alloc_size, hCB] at this
    rw [hCB]
    exact Row.of_heap this
  have a0 : CA[0]? = some (.int .i64 c.id) := by rw [hCA]; simpa using Ck.c0 c _
  have a17 : CA[17]? = some (.int .u32 c.print) := by rw [hCA]; simpa using Ck.c17 hc _
  have a21 : CA[21]? = some (.bool c.lost) := by rw [hCA]; simpa using Ck.c21 hc _
  have a22 : CA[22]? = some (.slice a c.refs.length cap) := by rw [hCA]; simpa using Ck.c22 hc _
  have b0 : CB[0]? = some (.int .i64 d.id) := by rw [hCB]; simpa using Ck.c0 d _
  have b17 : CB[17]? = some (.int .u32 d.print) := by rw [hCB]; simpa using Ck.c17 hd _
  have b21 : CB[21]? = some (.bool d.lost) := by rw [hCB]; simpa using Ck.c21 hd _
  have b22 : CB[22]? = some (.slice a' d.refs.length cap') := by rw [hCB]; simpa using Ck.c22 hd _
  obtain ⟨C, hC⟩ : ∃ C, C = c.dig.map (Value.int .u8) := ⟨_, rfl⟩
  obtain ⟨D, hD⟩ : ∃ D, D = d.dig.map (Value.int .u8) := ⟨_, rfl⟩
  have hCl : C.length = 16 := by rw [hC]; simp [hc]
  have hDl : D.length = 16 := by rw [hD]; simp [hd]
  have rC : Row ((w.alloc (.cells CA 45)).alloc (.cells CB 45)) w.heap.size 1 C := by rw [hC]; exact Ck.digRow r1
  have rD : Row ((w.alloc (.cells CA 45)).alloc (.cells CB 45)) (w.heap.size + 1) 1 D := by rw [hD]; exact Ck.digRow r2
  have rU : Row ((w.alloc (.cells CA 45)).alloc (.cells CB 45)) w.heap.size 18 c.pos.cells := Ck.posRow hc r1
  have rV : Row ((w.alloc (.cells CA 45)).alloc (.cells CB 45)) (w.heap.size + 1) 18 d.pos.cells := Ck.posRow hd r2
  have q1 := nequal_digL C D hC hD hc hd
  have q2 : ∀ w, (binOp .neq 26 (.agg c.pos.cells.toArray) (.agg d.pos.cells.toArray)).run Try.prog w = .ok (.bool (!decide (c.pos = d.pos))) w := nequal_unit c.pos d.pos
  have eA : (c.cells (.slice a c.refs.length cap)).toArray = CA := hCA.symm
  have eB : (d.cells (.slice a' d.refs.length cap')).toArray = CB := hCB.symm
  rw [eA, eB]
  have HCl := Lib.hid hCl
  have HDl := Lib.hid hDl
  have HRC := Lib.hid hrc
  have HRD := Lib.hid hrd
  have f0 : (c.id != d.id) = false := by simp [h0]
  simp only [h1, decide_true, Bool.not_true] at q1
  have f2 : (c.print != d.print) = true := by simp [h2]
  clear q2
  clear hCA hCB hC hD hCl hDl eA eB r1 r2 hc hd hm hrc hrd
  clear h0 h1 h2
  go_enter Try.func20, Try.ntmps20
  go_wp2_with (first | ((with_reducible refine wpList_load_o 42 (.tmp 12) ?_ ?_ _ Try.underlying42 ?_ 16 info42 w.heap.size 1 C ?_ rC HCl.out ?_); (· rfl); (· rfl); (· rfl); (· rfl)) | ((with_reducible refine wpList_load_o 42 (.tmp 14) ?_ ?_ _ Try.underlying42 ?_ 16 info42 (w.heap.size + 1) 1 D ?_ rD HDl.out ?_); (· rfl); (· rfl); (· rfl); (· rfl)) | ((with_reducible refine wpList_load_o 26 (.tmp 26) ?_ ?_ _ Try.underlying26 ?_ 3 info26 w.heap.size 18 c.pos.cells ?_ rU (U3.len _) ?_); (· rfl); (· rfl); (· rfl); (· rfl)) | ((with_reducible refine wpList_load_o 26 (.tmp 28) ?_ ?_ _ Try.underlying26 ?_ 3 info26 (w.heap.size + 1) 18 d.pos.cells ?_ rV (U3.len _) ?_); (· rfl); (· rfl); (· rfl); (· rfl)))
  go_ret
  exact ⟨rfl, ((Mod.refl _ _).alloc _).alloc _⟩

set_option maxRecDepth 100000 in
set_option maxHeartbeats 1000000 in
theorem sc_ne3 (w : World) (c d : Ck) (rv ru : Value) (hc : c.dig.length = 16) (hd : d.dig.length = 16) (hrc : Refs w rv c.refs) (hrd : Refs w ru d.refs) (h0 : c.id = d.id) (h1 : c.dig = d.dig) (h2 : c.print = d.print) (h3 : ¬ c.pos = d.pos) :
    Calls Try.prog 20 #[.agg (c.cells rv).toArray, .agg (d.cells ru).toArray] w (BoolPost false w) := by
  obtain ⟨a, cap, rfl⟩ := hrc.sliceLen
  obtain ⟨a', cap', rfl⟩ := hrd.sliceLen
  obtain ⟨CA, hCA⟩ : ∃ CA, CA = (c.cells (.slice a c.refs.length cap)).toArray := ⟨_, rfl⟩
  obtain ⟨CB, hCB⟩ : ∃ CB, CB = (d.cells (.slice a' d.refs.length cap')).toArray := ⟨_, rfl⟩
  have hm : Mod [] (w.alloc (.cells CA 45)) ((w.alloc (.cells CA 45)).alloc (.cells CB 45)) := (Mod.refl _ _).alloc _
  have r1 : Row ((w.alloc (.cells CA 45)).alloc (.cells CB 45)) w.heap.size 0 (c.cells (.slice a c.refs.length cap)) := by
    have := heap_alloc_at w (.cells CA 45)
    rw [hCA] at this
    rw [hCA] at hm
    rw [hCA]
    exact (Row.of_heap this).mod hm (by simp)
  have r2 : Row ((w.alloc (.cells CA 45)).alloc (.cells CB 45)) (w.heap.size + 1) 0 (d.cells (.slice a' d.refs.length cap')) := by
    have := heap_alloc_at (w.alloc (.cells CA 45)) (.cells CB 45)
    rw [alloc_size, hCB] at this
    rw [hCB]
    exact Row.of_heap this
  have a0 : CA[0]? = some (.int .i64 c.id) := by rw [hCA]; simpa using Ck.c0 c _
  have a17 : CA[17]? = some (.int .u32 c.print) := by rw [hCA]; simpa using Ck.c17 hc _
  have a21 : CA[21]? = some (.bool c.lost) := by rw [hCA]; simpa using Ck.c21 hc _
  have a22 : CA[22]? = some (.slice a c.refs.length cap) := by rw [hCA]; simpa using Ck.c22 hc _
  have b0 : CB[0]? = some (.int .i64 d.id) := by rw [hCB]; simpa using Ck.c0 d _
  have b17 : CB[17]? = some (.int .u32 d.print) := by rw [hCB]; simpa using Ck.c17 hd _
  have b21 : CB[21]? = some (.bool d.lost) := by rw [hCB]; simpa using Ck.c21 hd _
  have b22 : CB[22]? = some (.slice a' d.refs.length cap') := by rw [hCB]; simpa using Ck.c22 hd _
  obtain ⟨C, hC⟩ : ∃ C, C = c.dig.map (Value.int .u8) := ⟨_, rfl⟩
  obtain ⟨D, hD⟩ : ∃ D, D = d.dig.map (Value.int .u8) := ⟨_, rfl⟩
  have hCl : C.length = 16 := by rw [hC]; simp [hc]
  have hDl : D.length = 16 := by rw [hD]; simp [hd]
  have rC : Row ((w.alloc (.cells CA 45)).alloc (.cells CB 45)) w.heap.size 1 C := by rw [hC]; exact Ck.digRow r1
  have rD : Row ((w.alloc (.cells CA 45)).alloc (.cells CB 45)) (w.heap.size + 1) 1 D := by rw [hD]; exact Ck.digRow r2
  have rU : Row ((w.alloc (.cells CA 45)).alloc (.cells CB 45)) w.heap.size 18 c.pos.cells := Ck.posRow hc r1
  have rV : Row ((w.alloc (.cells CA 45)).alloc (.cells CB 45)) (w.heap.size + 1) 18 d.pos.cells := Ck.posRow hd r2
  have q1 := nequal_digL C D hC hD hc hd
  have q2 : ∀ w, (binOp .neq 26 (.agg c.pos.cells.toArray) (.agg d.pos.cells.toArray)).run Try.prog w = .ok (.bool (!decide (c.pos = d.pos))) w := nequal_unit c.pos d.pos
  have eA : (c.cells (.slice a c.refs.length cap)).toArray = CA := hCA.symm
  have eB : (d.cells (.slice a' d.refs.length cap')).toArray = CB := hCB.symm
  rw [eA, eB]
  have HCl := Lib.hid hCl
  have HDl := Lib.hid hDl
  have HRC := Lib.hid hrc
  have HRD := Lib.hid hrd
  have f0 : (c.id != d.id) = false := by simp [h0]
  simp only [h1, decide_true, Bool.not_true] at q1
  have f2 : (c.print != d.print) = false := by simp [h2]
  simp only [h3, decide_false, Bool.not_false] at q2
  clear hCA hCB hC hD hCl hDl eA eB r1 r2 hc hd hm hrc hrd
  clear h0 h1 h2 h3
  go_enter Try.func20, Try.ntmps20
  go_wp2_with (first | ((with_reducible refine wpList_load_o 42 (.tmp 12) ?_ ?_ _ Try.underlying42 ?_ 16 info42 w.heap.size 1 C ?_ rC HCl.out ?_); (· rfl); (· rfl); (· rfl); (· rfl)) | ((with_reducible refine wpList_load_o 42 (.tmp 14) ?_ ?_ _ Try.underlying42 ?_ 16 info42 (w.heap.size + 1) 1 D ?_ rD HDl.out ?_); (· rfl); (· rfl); (· rfl); (· rfl)) | ((with_reducible refine wpList_load_o 26 (.tmp 26) ?_ ?_ _ Try.underlying26 ?_ 3 info26 w.heap.size 18 c.pos.cells ?_ rU (U3.len _) ?_); (· rfl); (· rfl); (· rfl); (· rfl)) | ((with_reducible refine wpList_load_o 26 (.tmp 28) ?_ ?_ _ Try.underlying26 ?_ 3 info26 (w.heap.size + 1) 18 d.pos.cells ?_ rV (U3.len _) ?_); (· rfl); (· rfl); (· rfl); (· rfl)))
  go_ret
  exact ⟨rfl, ((Mod.refl _ _).alloc _).alloc _⟩

set_option maxRecDepth 100000 in
set_option maxHeartbeats 1000000 in
theorem sc_ne4 (w : World) (c d : Ck) (rv ru : Value) (hc : c.dig.length = 16) (hd : d.dig.length = 16) (hrc : Refs w rv c.refs) (hrd : Refs w ru d.refs) (h0 : c.id = d.id) (h1 : c.dig = d.dig) (h2 : c.print = d.print) (h3 : c.pos = d.pos) (h4 : ¬ c.lost = d.lost) :
    Calls Try.prog 20 #[.agg (c.cells rv).toArray, .agg (d.cells ru).toArray] w (BoolPost false w) := by
  obtain ⟨a, cap, rfl⟩ := hrc.sliceLen
  obtain ⟨a', cap', rfl⟩ := hrd.sliceLen
  obtain ⟨CA, hCA⟩ : ∃ CA, CA = (c.cells (.slice a c.refs.length cap)).toArray := ⟨_, rfl⟩
  obtain ⟨CB, hCB⟩ : ∃ CB, CB = (d.cells (.slice a' d.refs.length cap')).toArray := ⟨_, rfl⟩
  have hm : Mod [] (w.alloc (.cells CA 45)) ((w.alloc (.cells CA 45)).alloc (.cells CB 45)) := (Mod.refl _ _).alloc _
  have r1 : Row ((w.alloc (.cells CA 45)).alloc (.cells CB 45)) w.heap.size 0 (c.cells (.slice a c.refs.length cap)) := by
    have := heap_alloc_at w (.cells CA 45)
    rw [hCA] at this
    rw [hCA] at hm
    rw [hCA]
    exact (Row.of_heap this).mod hm (by simp)
  have r2 : Row ((w.alloc (.cells CA 45)).alloc (.cells CB 45)) (w.heap.size + 1) 0 (d.cells (.slice a' d.refs.length cap')) := by
    have := heap_alloc_at (w.alloc (.cells CA 45)) (.cells CB 45)
    rw [alloc_size, hCB] at this
    rw [hCB]
    exact Row.of_heap this
  have a0 : CA[0]? = some (.int .i64 c.id) := by rw [hCA]; simpa using Ck.c0 c _
  have a17 : CA[17]? = some (.int .u32 c.print) := by rw [hCA]; simpa using Ck.c17 hc _
  have a21 : CA[21]? = some (.bool c.lost) := by rw [hCA]; simpa using Ck.c21 hc _
  have a22 : CA[22]? = some (.slice a c.refs.length cap) := by rw [hCA]; simpa using Ck.c22 hc _
  have b0 : CB[0]? = some (.int .i64 d.id) := by rw [hCB]; simpa using Ck.c0 d _
  have b17 : CB[17]? = some (.int .u32 d.print) := by rw [hCB]; simpa using Ck.c17 hd _
  have b21 : CB[21]? = some (.bool d.lost) := by rw [hCB]; simpa using Ck.c21 hd _
  have b22 : CB[22]? = some (.slice a' d.refs.length cap') := by rw [hCB]; simpa using Ck.c22 hd _
  obtain ⟨C, hC⟩ : ∃ C, C = c.dig.map (Value.int .u8) := ⟨_, rfl⟩
  obtain ⟨D, hD⟩ : ∃ D, D = d.dig.map (Value.int .u8) := ⟨_, rfl⟩
  have hCl : C.length = 16 := by rw [hC]; simp [hc]
  have hDl : D.length = 16 := by rw [hD]; simp [hd]
  have rC : Row ((w.alloc (.cells CA 45)).alloc (.cells CB 45)) w.heap.size 1 C := by rw [hC]; exact Ck.digRow r1
  have rD : Row ((w.alloc (.cells CA 45)).alloc (.cells CB 45)) (w.heap.size + 1) 1 D := by rw [hD]; exact Ck.digRow r2
  have rU : Row ((w.alloc (.cells CA 45)).alloc (.cells CB 45)) w.heap.size 18 c.pos.cells := Ck.posRow hc r1
  have rV : Row ((w.alloc (.cells CA 45)).alloc (.cells CB 45)) (w.heap.size + 1) 18 d.pos.cells := Ck.posRow hd r2
  have q1 := nequal_digL C D hC hD hc hd
  have q2 : ∀ w, (binOp .neq 26 (.agg c.pos.cells.toArray) (.agg d.pos.cells.toArray)).run Try.prog w = .ok (.bool (!decide (c.pos = d.pos))) w := nequal_unit c.pos d.pos
  have eA : (c.cells (.slice a c.refs.length cap)).toArray = CA := hCA.symm
  have eB : (d.cells (.slice a' d.refs.length cap')).toArray = CB := hCB.symm
  rw [eA, eB]
  have HCl := Lib.hid hCl
  have HDl := Lib.hid hDl
  have HRC := Lib.hid hrc
  have HRD := Lib.hid hrd
  have f0 : (c.id != d.id) = false := by simp [h0]
  simp only [h1, decide_true, Bool.not_true] at q1
  have f2 : (c.print != d.print) = false := by simp [h2]
  simp only [decide_eq_true h3, Bool.not_true] at q2
  have f4 : (c.lost == d.lost) = false := by simp [h4]
  clear hCA hCB hC hD hCl hDl eA eB r1 r2 hc hd hm hrc hrd
  clear h0 h1 h2 h3 h4
  go_enter Try.func20, Try.ntmps20
  go_wp2_with (first | ((with_reducible refine wpList_load_o 42 (.tmp 12) ?_ ?_ _ Try.underlying42 ?_ 16 info42 w.heap.size 1 C ?_ rC HCl.out ?_); (· rfl); (· rfl); (· rfl); (· rfl)) | ((with_reducible refine wpList_load_o 42 (.tmp 14) ?_ ?_ _ Try.underlying42 ?_ 16 info42 (w.heap.size + 1) 1 D ?_ rD HDl.out ?_); (· rfl); (· rfl); (· rfl); (· rfl)) | ((with_reducible refine wpList_load_o 26 (.tmp 26) ?_ ?_ _ Try.underlying26 ?_ 3 info26 w.heap.size 18 c.pos.cells ?_ rU (U3.len _) ?_); (· rfl); (· rfl); (· rfl); (· rfl)) | ((with_reducible refine wpList_load_o 26 (.tmp 28) ?_ ?_ _ Try.underlying26 ?_ 3 info26 (w.heap.size + 1) 18 d.pos.cells ?_ rV (U3.len _) ?_); (· rfl); (· rfl); (· rfl); (· rfl)))
  go_ret
  exact ⟨rfl, ((Mod.refl _ _).alloc _).alloc _⟩

set_option maxRecDepth 100000 in
set_option maxHeartbeats 1000000 in
theorem sc_ne5 (w : World) (c d : Ck) (rv ru : Value) (hc : c.dig.length = 16) (hd : d.dig.length = 16) (hrc : Refs w rv c.refs) (hrd : Refs w ru d.refs) (h0 : c.id = d.id) (h1 : c.dig = d.dig) (h2 : c.print = d.print) (h3 : c.pos = d.pos) (h4 : c.lost = d.lost) (h5 : ¬ c.refs.length = d.refs.length) :
    Calls Try.prog 20 #[.agg (c.cells rv).toArray, .agg (d.cells ru).toArray] w (BoolPost false w) := by
  obtain ⟨a, cap, rfl⟩ := hrc.sliceLen
  obtain ⟨a', cap', rfl⟩ := hrd.sliceLen
  obtain ⟨CA, hCA⟩ : ∃ CA, CA = (c.cells (.slice a c.refs.length cap)).toArray := ⟨_, rfl⟩
  obtain ⟨CB, hCB⟩ : ∃ CB, CB = (d.cells (.slice a' d.refs.length cap')).toArray := ⟨_, rfl⟩
  have hm : Mod [] (w.alloc (.cells CA 45)) ((w.alloc (.cells CA 45)).alloc (.cells CB 45)) := (Mod.refl _ _).alloc _
  have r1 : Row ((w.alloc (.cells CA 45)).alloc (.cells CB 45)) w.heap.size 0 (c.cells (.slice a c.refs.length cap)) := by
    have := heap_alloc_at w (.cells CA 45)
    rw [hCA] at this
    rw [hCA] at hm
    rw [hCA]
    exact (Row.of_heap this).mod hm (by simp)
  have r2 : Row ((w.alloc (.cells CA 45)).alloc (.cells CB 45)) (w.heap.size + 1) 0 (d.cells (.slice a' d.refs.length cap')) := by
    have := heap_alloc_at (w.alloc (.cells CA 45)) (.cells CB 45)
    rw [alloc_size, hCB] at this
    rw [hCB]
    exact Row.of_heap this
  have a0 : CA[0]? = some (.int .i64 c.id) := by rw [hCA]; simpa using Ck.c0 c _
  have a17 : CA[17]? = some (.int .u32 c.print) := by rw [hCA]; simpa using Ck.c17 hc _
  have a21 : CA[21]? = some (.bool c.lost) := by rw [hCA]; simpa using Ck.c21 hc _
  have a22 : CA[22]? = some (.slice a c.refs.length cap) := by rw [hCA]; simpa using Ck.c22 hc _
  have b0 : CB[0]? = some (.int .i64 d.id) := by rw [hCB]; simpa using Ck.c0 d _
  have b17 : CB[17]? = some (.int .u32 d.print) := by rw [hCB]; simpa using Ck.c17 hd _
  have b21 : CB[21]? = some (.bool d.lost) := by rw [hCB]; simpa using Ck.c21 hd _
  have b22 : CB[22]? = some (.slice a' d.refs.length cap') := by rw [hCB]; simpa using Ck.c22 hd _
  obtain ⟨C, hC⟩ : ∃ C, C = c.dig.map (Value.int .u8) := ⟨_, rfl⟩
  obtain ⟨D, hD⟩ : ∃ D, D = d.dig.map (Value.int .u8) := ⟨_, rfl⟩
  have hCl : C.length = 16 := by rw [hC]; simp [hc]
  have hDl : D.length = 16 := by rw [hD]; simp [hd]
  have rC : Row ((w.alloc (.cells CA 45)).alloc (.cells CB 45)) w.heap.size 1 C := by rw [hC]; exact Ck.digRow r1
  have rD : Row ((w.alloc (.cells CA 45)).alloc (.cells CB 45)) (w.heap.size + 1) 1 D := by rw [hD]; exact Ck.digRow r2
  have rU : Row ((w.alloc (.cells CA 45)).alloc (.cells CB 45)) w.heap.size 18 c.pos.cells := Ck.posRow hc r1
  have rV : Row ((w.alloc (.cells CA 45)).alloc (.cells CB 45)) (w.heap.size + 1) 18 d.pos.cells := Ck.posRow hd r2
  have q1 := nequal_digL C D hC hD hc hd
  have q2 : ∀ w, (binOp .neq 26 (.agg c.pos.cells.toArray) (.agg d.pos.cells.toArray)).run Try.prog w = .ok (.bool (!decide (c.pos = d.pos))) w := nequal_unit c.pos d.pos
  have eA : (c.cells (.slice a c.refs.length cap)).toArray = CA := hCA.symm
  have eB : (d.cells (.slice a' d.refs.length cap')).toArray = CB := hCB.symm
  rw [eA, eB]
  have HCl := Lib.hid hCl
  have HDl := Lib.hid hDl
  have HRC := Lib.hid hrc
  have HRD := Lib.hid hrd
  have f0 : (c.id != d.id) = false := by simp [h0]
  simp only [h1, decide_true, Bool.not_true] at q1
  have f2 : (c.print != d.print) = false := by simp [h2]
  simp only [decide_eq_true h3, Bool.not_true] at q2
  have f4 : (c.lost == d.lost) = true := by simp [h4]
  have f5 : ((c.refs.length : Int) != (d.refs.length : Int)) = true := bne_iff_ne.2 (by omega)
  clear hCA hCB hC hD hCl hDl eA eB r1 r2 hc hd hm hrc hrd
  clear h0 h1 h2 h3 h4 h5
  go_enter Try.func20, Try.ntmps20
  go_wp2_with (first | ((with_reducible refine wpList_load_o 42 (.tmp 12) ?_ ?_ _ Try.underlying42 ?_ 16 info42 w.heap.size 1 C ?_ rC HCl.out ?_); (· rfl); (· rfl); (· rfl); (· rfl)) | ((with_reducible refine wpList_load_o 42 (.tmp 14) ?_ ?_ _ Try.underlying42 ?_ 16 info42 (w.heap.size + 1) 1 D ?_ rD HDl.out ?_); (· rfl); (· rfl); (· rfl); (· rfl)) | ((with_reducible refine wpList_load_o 26 (.tmp 26) ?_ ?_ _ Try.underlying26 ?_ 3 info26 w.heap.size 18 c.pos.cells ?_ rU (U3.len _) ?_); (· rfl); (· rfl); (· rfl); (· rfl)) | ((with_reducible refine wpList_load_o 26 (.tmp 28) ?_ ?_ _ Try.underlying26 ?_ 3 info26 (w.heap.size + 1) 18 d.pos.cells ?_ rV (U3.len _) ?_); (· rfl); (· rfl); (· rfl); (· rfl)))
  go_ret
  exact ⟨rfl, ((Mod.refl _ _).alloc _).alloc _⟩

theorem take_sameR {xs ys : List (Int × Int)} {k : Nat} {x y : Int × Int} (hx : xs[k]? = some x) (hy : ys[k]? = some y) (h : xs.take k = ys.take k) : xs.take (k + 1) = ys.take (k + 1) ↔ x = y := by
  rw [take_snoc' hx, take_snoc' hy, h]
  simp

theorem Refs.cell {w : World} {a : Option Addr} {n cap : Nat} {r : List (Int × Int)} (h : Refs w (.slice a n cap) r) {k : Nat} {x : Int × Int} (hx : r[k]? = some x) : ∃ b, a = some ⟨b, 0, none⟩ ∧ Row w b (k * 2) [.int .i64 x.1, .int .i64 x.2] := by
  rcases h.shape with ⟨h1, rfl⟩ | ⟨b, cap', h1, _, _, _, h2⟩
  · simp at hx
  · cases h1; exact ⟨b, rfl, h2 k x hx⟩

set_option maxRecDepth 100000 in
set_option maxHeartbeats 1000000 in
theorem sc_eq (w : World) (c d : Ck) (rv ru : Value) (r : Bool) (hc : c.dig.length = 16) (hd : d.dig.length = 16) (hrc : Refs w rv c.refs) (hrd : Refs w ru d.refs) (h0 : c.id = d.id) (h1 : c.dig = d.dig) (h2 : c.print = d.print) (h3 : c.pos = d.pos) (h4 : c.lost = d.lost) (h5 : c.refs.length = d.refs.length) (hr : r = decide (c.refs = d.refs)) (hl : c.refs.length ≤ 9223372036854775807) :
    Calls Try.prog 20 #[.agg (c.cells rv).toArray, .agg (d.cells ru).toArray] w (BoolPost r w) := by
  obtain ⟨a, cap, rfl⟩ := hrc.sliceLen
  obtain ⟨a', cap', rfl⟩ := hrd.sliceLen
  obtain ⟨CA, hCA⟩ : ∃ CA, CA = (c.cells (.slice a c.refs.length cap)).toArray := ⟨_, rfl⟩
  obtain ⟨CB, hCB⟩ : ∃ CB, CB = (d.cells (.slice a' d.refs.length cap')).toArray := ⟨_, rfl⟩
  have hm : Mod [] (w.alloc (.cells CA 45)) ((w.alloc (.cells CA 45)).alloc (.cells CB 45)) := (Mod.refl _ _).alloc _
  have r1 : Row ((w.alloc (.cells CA 45)).alloc (.cells CB 45)) w.heap.size 0 (c.cells (.slice a c.refs.length cap)) := by
    have := heap_alloc_at w (.cells CA 45)
    rw [hCA] at this
    rw [hCA] at hm
    rw [hCA]
    exact (Row.of_heap this).mod hm (by simp)
  have r2 : Row ((w.alloc (.cells CA 45)).alloc (.cells CB 45)) (w.heap.size + 1) 0 (d.cells (.slice a' d.refs.length cap')) := by
    have := heap_alloc_at (w.alloc (.cells CA 45)) (.cells CB 45)
    rw [alloc_size, hCB] at this
    rw [hCB]
    exact Row.of_heap this
  have a0 : CA[0]? = some (.int .i64 c.id) := by rw [hCA]; simpa using Ck.c0 c _
  have a17 : CA[17]? = some (.int .u32 c.print) := by rw [hCA]; simpa using Ck.c17 hc _
  have a21 : CA[21]? = some (.bool c.lost) := by rw [hCA]; simpa using Ck.c21 hc _
  have a22 : CA[22]? = some (.slice a c.refs.length cap) := by rw [hCA]; simpa using Ck.c22 hc _
  have b0 : CB[0]? = some (.int .i64 d.id) := by rw [hCB]; simpa using Ck.c0 d _
  have b17 : CB[17]? = some (.int .u32 d.print) := by rw [hCB]; simpa using Ck.c17 hd _
  have b21 : CB[21]? = some (.bool d.lost) := by rw [hCB]; simpa using Ck.c21 hd _
  have b22 : CB[22]? = some (.slice a' d.refs.length cap') := by rw [hCB]; simpa using Ck.c22 hd _
  obtain ⟨C, hC⟩ : ∃ C, C = c.dig.map (Value.int .u8) := ⟨_, rfl⟩
  obtain ⟨D, hD⟩ : ∃ D, D = d.dig.map (Value.int .u8) := ⟨_, rfl⟩
  have hCl : C.length = 16 := by rw [hC]; simp [hc]
  have hDl : D.length = 16 := by rw [hD]; simp [hd]
  have rC : Row ((w.alloc (.cells CA 45)).alloc (.cells CB 45)) w.heap.size 1 C := by rw [hC]; exact Ck.digRow r1
  have rD : Row ((w.alloc (.cells CA 45)).alloc (.cells CB 45)) (w.heap.size + 1) 1 D := by rw [hD]; exact Ck.digRow r2
  have rU : Row ((w.alloc (.cells CA 45)).alloc (.cells CB 45)) w.heap.size 18 c.pos.cells := Ck.posRow hc r1
  have rV : Row ((w.alloc (.cells CA 45)).alloc (.cells CB 45)) (w.heap.size + 1) 18 d.pos.cells := Ck.posRow hd r2
  have q1 := nequal_digL C D hC hD hc hd
  have q2 : ∀ w, (binOp .neq 26 (.agg c.pos.cells.toArray) (.agg d.pos.cells.toArray)).run Try.prog w = .ok (.bool (!decide (c.pos = d.pos))) w := nequal_unit c.pos d.pos
  have eA : (c.cells (.slice a c.refs.length cap)).toArray = CA := hCA.symm
  have eB : (d.cells (.slice a' d.refs.length cap')).toArray = CB := hCB.symm
  rw [eA, eB]
  have HCl := Lib.hid hCl
  have HDl := Lib.hid hDl
  have HRC := Lib.hid hrc
  have HRD := Lib.hid hrd
  have f0 : (c.id != d.id) = false := by simp [h0]
  simp only [h1, decide_true, Bool.not_true] at q1
  have f2 : (c.print != d.print) = false := by simp [h2]
  simp only [decide_eq_true h3, Bool.not_true] at q2
  have f4 : (c.lost == d.lost) = true := by simp [h4]
  have hr1 : Refs ((w.alloc (.cells CA 45)).alloc (.cells CB 45)) (.slice a c.refs.length cap) c.refs := hrc.mod0 (((Mod.refl _ _).alloc _).alloc _)
  have hr2 : Refs ((w.alloc (.cells CA 45)).alloc (.cells CB 45)) (.slice a' d.refs.length cap') d.refs := hrd.mod0 (((Mod.refl _ _).alloc _).alloc _)
  have w22 := r1 22 _ (Ck.c22 hc _)
  have v22 := r2 22 _ (Ck.c22 hd _)
  obtain ⟨n, hn⟩ : ∃ n, c.refs.length = n := ⟨_, rfl⟩
  have hn2 : d.refs.length = n := by rw [← h5, hn]
  rw [hn] at hr1 w22 a22 hl
  rw [hn2] at hr2 v22 b22
  have H1 := Lib.hid hr1
  have H2 := Lib.hid hr2
  have HN := Lib.hid hn
  have HN2 := Lib.hid hn2
  have HR := Lib.hid hr
  clear hr1 hr2 hn hn2 hr
  clear h0 h1 h2 h3 h4 h5
  clear hCA hCB hC hD hCl hDl eA eB r1 r2 hc hd hm hrc hrd
  go_enter Try.func20, Try.ntmps20
  go_wp2_with (first | ((with_reducible refine wpList_load_o 42 (.tmp 12) ?_ ?_ _ Try.underlying42 ?_ 16 info42 w.heap.size 1 C ?_ rC HCl.out ?_); (· rfl); (· rfl); (· rfl); (· rfl)) | ((with_reducible refine wpList_load_o 42 (.tmp 14) ?_ ?_ _ Try.underlying42 ?_ 16 info42 (w.heap.size + 1) 1 D ?_ rD HDl.out ?_); (· rfl); (· rfl); (· rfl); (· rfl)) | ((with_reducible refine wpList_load_o 26 (.tmp 26) ?_ ?_ _ Try.underlying26 ?_ 3 info26 w.heap.size 18 c.pos.cells ?_ rU (U3.len _) ?_); (· rfl); (· rfl); (· rfl); (· rfl)) | ((with_reducible refine wpList_load_o 26 (.tmp 28) ?_ ?_ _ Try.underlying26 ?_ 3 info26 (w.heap.size + 1) 18 d.pos.cells ?_ rV (U3.len _) ?_); (· rfl); (· rfl); (· rfl); (· rfl)))
  obtain ⟨w1, hw1⟩ : ∃ w1, w1 = (w.alloc (.cells CA 45)).alloc (.cells CB 45) := ⟨_, rfl⟩
  have hm1 : Mod [] w w1 := by rw [hw1]; exact ((Mod.refl _ _).alloc _).alloc _
  rw [← hw1]
  rw [← hw1] at H1 H2 w22 v22
  clear hw1 rC rD rU rV q1 q2 a0 a17 a21 a22 b0 b17 b21 b22 f0 f2 f4
  go_loopw [5] (fun s5 wr => ∃ k : Nat, k ≤ n ∧ s5 = .int .i64 k ∧ Hid (c.refs.take k = d.refs.take k) ∧ Mod [] w1 wr) (fun s5 _ => n - (intOf s5).toNat)
  case atStart => exact ⟨0, by omega, rfl, Lib.hid (by simp), Mod.refl _ _⟩
  case round =>
    obtain ⟨k, hk, rfl, HT, hmr⟩ := hrel
    have z22 := hmr.cell w22 (by simp)
    have y22 := hmr.cell v22 (by simp)
    rw [Nat.zero_add] at z22 y22
    by_cases hlt : k < n
    · obtain ⟨x, hx⟩ : ∃ x, c.refs[k]? = some x := ⟨_, List.getElem?_eq_getElem (by have := HN.out; omega)⟩
      obtain ⟨y, hy⟩ : ∃ y, d.refs[k]? = some y := ⟨_, List.getElem?_eq_getElem (by have := HN2.out; omega)⟩
      obtain ⟨b, rfl, rx⟩ := H1.out.cell hx
      obtain ⟨b', rfl, ry⟩ := H2.out.cell hy
      have cx0 := (rx.mod hmr (by simp)).at0 _ rfl
      have cx1 := (rx.mod hmr (by simp)).at 1 _ rfl
      have cy0 := (ry.mod hmr (by simp)).at0 _ rfl
      have cy1 := (ry.mod hmr (by simp)).at 1 _ rfl
      have hts := take_sameR hx hy HT.out
      have HS := Lib.hid hts
      have hxy : decide (c.refs = d.refs) = true → x = y := by
        intro h
        have e : c.refs = d.refs := of_decide_eq_true h
        rw [e, hy] at hx; cases hx; rfl
      have HXY := Lib.hid hxy
      have hq := nequal_ref x y
      have hi0 : (0 : Int) ≤ (k : Int) := by omega
      have hi1 : (k : Int) < (n : Int) := by omega
      clear hx hy hts hxy w22 v22 rx ry
      by_cases he : x = y
      · simp only [he, decide_true, Bool.not_true] at hq
        have HE := Lib.hid he
        clear he
        rw [← HE.out] at hq
        rw [HE.out] at cx0 cx1
        rw [HE.out] at hq
        go_wp2
        go_quiet (fail)
        go_wp2
        go_roundw
        case rel => exact ⟨k + 1, by omega, by go_num, Lib.hid (HS.out.2 HE.out), hmr.drewN _⟩
        case measure => simp [intOf]; omega
      · simp only [he, decide_false, Bool.not_false] at hq
        have HE := Lib.hid he
        clear he
        go_wp2
        go_quiet (fail)
        go_wp2
        go_ret
        obtain rfl : r = false := by
          rw [HR.out]
          cases h : decide (c.refs = d.refs) with
          | false => rfl
          | true => exact absurd (HXY.out h) HE.out
        exact ⟨rfl, hm1.trans_nil (hmr.drewN _)⟩
    · obtain rfl : k = n := by omega
      go_wp2
      go_ret
      have h1 := HT.out
      rw [List.take_of_length_le (by rw [HN.out]; omega), List.take_of_length_le (by rw [HN2.out]; omega)] at h1
      obtain rfl : r = true := by rw [HR.out]; simpa using h1
      exact ⟨rfl, hm1.trans_nil hmr⟩

theorem sameChunk_any (w : World) (c d : Ck) (rv ru : Value) (hc : c.dig.length = 16) (hd : d.dig.length = 16) (hrc : Refs w rv c.refs) (hrd : Refs w ru d.refs) :
    Calls Try.prog 20 #[.agg (c.cells rv).toArray, .agg (d.cells ru).toArray] w (BoolPost (decide (c = d)) w) := by
  have hl : c.refs.length ≤ 9223372036854775807 := by
    rcases hrc.shape with ⟨h1, h2⟩ | ⟨b, cap, h1, _, h2, h3, _⟩
    · rw [h2]; simp
    · unfold maxLen at h3; omega
  by_cases h0 : c.id = d.id
  · by_cases h1 : c.dig = d.dig
    · by_cases h2 : c.print = d.print
      · by_cases h3 : c.pos = d.pos
        · by_cases h4 : c.lost = d.lost
          · by_cases h5 : c.refs.length = d.refs.length
            · refine sc_eq w c d rv ru _ hc hd hrc hrd h0 h1 h2 h3 h4 h5 ?_ hl
              obtain ⟨c0, c1, c2, c3, c4, c5⟩ := c
              obtain ⟨d0, d1, d2, d3, d4, d5⟩ := d
              simp only at h0 h1 h2 h3 h4
              subst h0 h1 h2 h3 h4
              simp
            · have : decide (c = d) = false := by simpa using fun e => h5 (by rw [e])
              rw [this]; exact sc_ne5 w c d rv ru hc hd hrc hrd h0 h1 h2 h3 h4 h5
          · have : decide (c = d) = false := by simpa using fun e => h4 (by rw [e])
            rw [this]; exact sc_ne4 w c d rv ru hc hd hrc hrd h0 h1 h2 h3 h4
        · have : decide (c = d) = false := by simpa using fun e => h3 (by rw [e])
          rw [this]; exact sc_ne3 w c d rv ru hc hd hrc hrd h0 h1 h2 h3
      · have : decide (c = d) = false := by simpa using fun e => h2 (by rw [e])
        rw [this]; exact sc_ne2 w c d rv ru hc hd hrc hrd h0 h1 h2
    · have : decide (c = d) = false := by simpa using fun e => h1 (by rw [e])
      rw [this]; exact sc_ne1 w c d rv ru hc hd hrc hrd h0 h1
  · have : decide (c = d) = false := by simpa using fun e => h0 (by rw [e])
    rw [this]; exact sc_ne0 w c d rv ru hc hd hrc hrd h0

end Go.Proofs.Ytknkifanpppglaa

/- Walks: the law's do: one operation on the program's table. -/
namespace Go.Proofs.Ytknkifanpppglaa
open Go.RowKit

def Opn.cells (o : Opn) : List Value := [.int .i64 o.kind, .int .i64 o.id, .int .i64 o.tenant, .int .i64 o.n, .int .i64 o.pos.row, .int .i64 o.pos.group, .int .i64 o.pos.unit, .int .u8 o.d, .int .u32 o.print]
def Opn.val (o : Opn) : Value := .agg #[.int .i64 o.kind, .int .i64 o.id, .int .i64 o.tenant, .int .i64 o.n, .int .i64 o.pos.row, .int .i64 o.pos.group, .int .i64 o.pos.unit, .int .u8 o.d, .int .u32 o.print]

theorem TabPost.start {tb mb : Nat} {lv : Value} {l' : List Ck} {v : Value} {w w1 : World} {e : Ending} {w' : World} (h : TabPost tb mb lv l' v w1 e w') (hm : Mod [] w w1) : TabPost tb mb lv l' v w e w' := by
  obtain ⟨lv', h1, h2, h3, h4⟩ := h
  refine ⟨lv', h1, h2, hm.nil.trans h3 (fun x hx => .inl hx), ?_⟩
  rcases h4 with h4 | ⟨g, h4, h5⟩
  · exact .inl h4
  · exact .inr ⟨g, h4, by have := hm.size; omega⟩

theorem Tab.fresh {w : World} {tb mb : Nat} {lv : Value} {l : List Ck} (h : Tab w tb mb lv l) {x : Nat} (hx : w.heap.size ≤ x) : x ∉ foot tb mb lv := by
  obtain ⟨p1, p2, p3, p4, p5, p6⟩ := h.parts
  intro hm
  simp only [foot, List.mem_cons, Option.mem_toList] at hm
  rcases hm with rfl | rfl | hm
  · omega
  · omega
  · have := p6 x hm; omega

def DoPost (tb mb : Nat) (lv : Value) (l : List Ck) (o : Opn) (w : World) (e : Ending) (w' : World) : Prop :=
  TabPost tb mb lv (opL l o).1 (.tuple #[.int .i64 (opL l o).2.1, .int .i64 (opL l o).2.2]) w e w'

set_option maxRecDepth 100000 in
set_option maxHeartbeats 1000000 in
theorem do_add (w : World) (tb mb : Nat) (lv : Value) (l : List Ck) (o : Opn) (h : Tab w tb mb lv l) (hk : o.kind = 1) :
    Calls Try.prog 30 #[.pointer (some ⟨tb, 0, none⟩), o.val] w (DoPost tb mb lv l o w) := by
  have HT := Lib.hid h
  have hnf := h.fresh (Nat.le_refl _)
  have HNF := Lib.hid hnf
  clear hnf
  have e1 : opL l o = addL l (digOf o.d) o.print o.pos o.tenant := by simp [opL, hk]
  unfold DoPost
  rw [e1]
  obtain ⟨kind, id, tenant, n, pos, d, print⟩ := o
  simp only at hk
  subst hk
  unfold Opn.val
  clear h e1
  go_enter Try.func30, Try.ntmps30
  go_wp2
  obtain ⟨w1, hw1⟩ : ∃ w1, w1 = w.alloc (.cells #[.int .i64 1, .int .i64 id, .int .i64 tenant, .int .i64 n, .int .i64 pos.row, .int .i64 pos.group, .int .i64 pos.unit, .int .u8 d, .int .u32 print] 37) := ⟨_, rfl⟩
  have hm1 : Mod [] w w1 := by rw [hw1]; exact (Mod.refl _ _).alloc _
  have hr : Row w1 w.heap.size 0 [.int .i64 1, .int .i64 id, .int .i64 tenant, .int .i64 n, .int .i64 pos.row, .int .i64 pos.group, .int .i64 pos.unit, .int .u8 d, .int .u32 print] := by rw [hw1]; exact Row.of_heap (heap_alloc_at w _)
  have c2 := hr.at 2 _ rfl
  have c4 := hr.at 4 _ rfl
  have c5 := hr.at 5 _ rfl
  have c6 := hr.at 6 _ rfl
  have c7 := hr.at 7 _ rfl
  have c8 := hr.at 8 _ rfl
  rw [Nat.zero_add] at c2 c4 c5 c6 c7 c8
  rw [← hw1]
  clear hw1 hr
  go_region_held3 (fun w' => w'.cell? ⟨w.heap.size, 2, none⟩ = some (.int .i64 tenant) ∧ w'.cell? ⟨w.heap.size, 4, none⟩ = some (.int .i64 pos.row) ∧ w'.cell? ⟨w.heap.size, 5, none⟩ = some (.int .i64 pos.group) ∧ w'.cell? ⟨w.heap.size, 6, none⟩ = some (.int .i64 pos.unit) ∧ w'.cell? ⟨w.heap.size, 7, none⟩ = some (.int .u8 d) ∧ w'.cell? ⟨w.heap.size, 8, none⟩ = some (.int .u32 print))
    (first | exact ⟨c2, c4, c5, c6, c7, c8⟩ | exact ⟨hmd.cell c2 (by simp), hmd.cell c4 (by simp), hmd.cell c5 (by simp), hmd.cell c6 (by simp), hmd.cell c7 (by simp), hmd.cell c8 (by simp)⟩ | exact ⟨hm3.cell (hmd.cell c2 (by simp)) HNF.out, hm3.cell (hmd.cell c4 (by simp)) HNF.out, hm3.cell (hmd.cell c5 (by simp)) HNF.out, hm3.cell (hmd.cell c6 (by simp)) HNF.out, hm3.cell (hmd.cell c7 (by simp)) HNF.out, hm3.cell (hmd.cell c8 (by simp)) HNF.out⟩)
    (first | (go_at_call 25; refine (digest_any d _).mono ?_; rintro e w2 ⟨rfl, hmd⟩) | (go_at_call 51; refine (add_any w2 tb mb lv l (digOf d) print pos tenant (by simp [digOf]) (HT.out.mod0 (hm1.trans_nil ((((Mod.refl [] w1).drew).trans_nil hmd))))).mono ?_; rintro e w3 ⟨lv', rfl, hT3, hm3, ho3⟩))
  go_wp2
  go_ret2
  exact TabPost.start ⟨lv', rfl, hT3, hm3, ho3⟩ (hm1.trans_nil (((Mod.refl [] w1).drew).trans_nil hmd))


set_option maxRecDepth 100000 in
set_option maxHeartbeats 1000000 in
theorem do_refer (w : World) (tb mb : Nat) (lv : Value) (l : List Ck) (o : Opn) (h : Tab w tb mb lv l) (hk : o.kind = 2) :
    Calls Try.prog 30 #[.pointer (some ⟨tb, 0, none⟩), o.val] w (DoPost tb mb lv l o w) := by
  have HT := Lib.hid h
  have e1 : opL l o = ((referL l o.id o.tenant o.n).1, 0, (referL l o.id o.tenant o.n).2) := by simp [opL, hk]
  unfold DoPost
  rw [e1]
  obtain ⟨kind, id, tenant, n, pos, d, print⟩ := o
  simp only at hk
  subst hk
  unfold Opn.val
  clear h e1
  go_enter Try.func30, Try.ntmps30
  go_wp2_with (go_at_call 52; refine (refer_any _ tb mb lv l id tenant n (HT.out.mod0 ((Mod.refl _ _).alloc _))).mono ?_; rintro e w3 ⟨lv', rfl, hT3, hm3, ho3⟩)
  go_ret2
  exact TabPost.start ⟨lv', rfl, hT3, hm3, ho3⟩ ((Mod.refl _ _).alloc _)

set_option maxRecDepth 100000 in
set_option maxHeartbeats 1000000 in
theorem do_unrefer (w : World) (tb mb : Nat) (lv : Value) (l : List Ck) (o : Opn) (h : Tab w tb mb lv l) (hk : o.kind = 3) :
    Calls Try.prog 30 #[.pointer (some ⟨tb, 0, none⟩), o.val] w (DoPost tb mb lv l o w) := by
  have HT := Lib.hid h
  have e1 : opL l o = ((unreferL l o.id o.tenant o.n).1, (if (unreferL l o.id o.tenant o.n).2.1 then 1 else 0), (unreferL l o.id o.tenant o.n).2.2) := by simp [opL, hk]
  unfold DoPost
  rw [e1]
  obtain ⟨kind, id, tenant, n, pos, d, print⟩ := o
  simp only at hk
  subst hk
  unfold Opn.val
  simp only
  cases hu : (unreferL l id tenant n).2.1
  all_goals
    have HU := Lib.hid hu
    simp only [Bool.false_eq_true, if_true, if_false]
    clear h e1 hu
    go_enter Try.func30, Try.ntmps30
    go_wp2_with (go_at_call 53; refine (unrefer_any _ tb mb lv l id tenant n (HT.out.mod0 ((Mod.refl _ _).alloc _))).mono ?_; rintro e w3 ⟨lv', rfl, hT3, hm3, ho3⟩; rw [HU.out])
    go_ret2
    exact TabPost.start ⟨lv', rfl, hT3, hm3, ho3⟩ ((Mod.refl _ _).alloc _)

set_option maxRecDepth 100000 in
set_option maxHeartbeats 1000000 in
theorem do_move (w : World) (tb mb : Nat) (lv : Value) (l : List Ck) (o : Opn) (h : Tab w tb mb lv l) (hk : o.kind = 4) :
    Calls Try.prog 30 #[.pointer (some ⟨tb, 0, none⟩), o.val] w (DoPost tb mb lv l o w) := by
  have HT := Lib.hid h
  have e1 : opL l o = ((moveL l o.id o.pos).1, 0, (moveL l o.id o.pos).2) := by simp [opL, hk]
  unfold DoPost
  rw [e1]
  obtain ⟨kind, id, tenant, n, pos, d, print⟩ := o
  simp only at hk
  subst hk
  unfold Opn.val
  clear h e1
  go_enter Try.func30, Try.ntmps30
  go_wp2_with (go_at_call 35; refine (move_any _ tb mb lv l id pos (HT.out.mod0 ((Mod.refl _ _).alloc _))).mono ?_; rintro e w3 ⟨lv', rfl, hT3, hm3, ho3⟩)
  go_ret2
  exact TabPost.start ⟨lv', rfl, hT3, hm3, ho3⟩ ((Mod.refl _ _).alloc _)

set_option maxRecDepth 100000 in
set_option maxHeartbeats 1000000 in
theorem do_lose (w : World) (tb mb : Nat) (lv : Value) (l : List Ck) (o : Opn) (h : Tab w tb mb lv l) (hk : o.kind = 5) :
    Calls Try.prog 30 #[.pointer (some ⟨tb, 0, none⟩), o.val] w (DoPost tb mb lv l o w) := by
  have HT := Lib.hid h
  have e1 : opL l o = ((loseL l o.id).1, 0, (loseL l o.id).2) := by simp [opL, hk]
  unfold DoPost
  rw [e1]
  obtain ⟨kind, id, tenant, n, pos, d, print⟩ := o
  simp only at hk
  subst hk
  unfold Opn.val
  clear h e1
  go_enter Try.func30, Try.ntmps30
  go_wp2_with (go_at_call 34; refine (lose_any _ tb mb lv l id (HT.out.mod0 ((Mod.refl _ _).alloc _))).mono ?_; rintro e w3 ⟨lv', rfl, hT3, hm3, ho3⟩)
  go_ret2
  exact TabPost.start ⟨lv', rfl, hT3, hm3, ho3⟩ ((Mod.refl _ _).alloc _)

set_option maxRecDepth 100000 in
set_option maxHeartbeats 1000000 in
theorem do_none (w : World) (tb mb : Nat) (lv : Value) (l : List Ck) (o : Opn) (h : Tab w tb mb lv l) (h1 : ¬ o.kind = 1) (h2 : ¬ o.kind = 2) (h3 : ¬ o.kind = 3) (h4 : ¬ o.kind = 4) (h5 : ¬ o.kind = 5) :
    Calls Try.prog 30 #[.pointer (some ⟨tb, 0, none⟩), o.val] w (DoPost tb mb lv l o w) := by
  have HT := Lib.hid h
  have e1 : opL l o = (l, 0, 0) := by simp [opL, h1, h2, h3, h4, h5]
  unfold DoPost
  rw [e1]
  obtain ⟨kind, id, tenant, n, pos, d, print⟩ := o
  simp only at h1 h2 h3 h4 h5
  have k1 : (kind == 1) = false := by simpa using h1
  have k2 : (kind == 2) = false := by simpa using h2
  have k3 : (kind == 3) = false := by simpa using h3
  have k4 : (kind == 4) = false := by simpa using h4
  have k5 : (kind == 5) = false := by simpa using h5
  unfold Opn.val
  clear h e1 h1 h2 h3 h4 h5
  go_enter Try.func30, Try.ntmps30
  go_wp2
  go_ret2
  exact ⟨lv, rfl, HT.out.mod0 ((Mod.refl _ _).alloc _), ((Mod.refl _ _).alloc _).nil, .inl rfl⟩

theorem do_any (w : World) (tb mb : Nat) (lv : Value) (l : List Ck) (o : Opn) (h : Tab w tb mb lv l) :
    Calls Try.prog 30 #[.pointer (some ⟨tb, 0, none⟩), o.val] w (DoPost tb mb lv l o w) := by
  by_cases h1 : o.kind = 1
  · exact do_add w tb mb lv l o h h1
  by_cases h2 : o.kind = 2
  · exact do_refer w tb mb lv l o h h2
  by_cases h3 : o.kind = 3
  · exact do_unrefer w tb mb lv l o h h3
  by_cases h4 : o.kind = 4
  · exact do_move w tb mb lv l o h h4
  by_cases h5 : o.kind = 5
  · exact do_lose w tb mb lv l o h h5
  exact do_none w tb mb lv l o h h1 h2 h3 h4 h5

end Go.Proofs.Ytknkifanpppglaa

/- Walks: wire.Int. -/
namespace Go.Proofs.Ytknkifanpppglaa
open Go.RowKit

def Bytes (w : World) (v : Value) (xs : List Int) : Prop := Own w 5 1 v (xs.map fun x => [Value.int .u8 x])
def BytesPost (xs : List Int) (w : World) (e : Ending) (w' : World) : Prop := ∃ v, e = .returned v ∧ Bytes w' v xs ∧ Mod [] w w' ∧ FreshN w.heap.size v

theorem infoBytes : (Try.prog.info? 70).map (·.size) = some 1 := by kernel_rfl

theorem sty_byte : STy Try.prog 70 5 1 1 := STy.mk' (z := .int .u8 0) Try.underlying70 (by kernel_rfl) rfl (by omega)

theorem Bytes.mod0 {w w' : World} (hm : Mod [] w w') {v : Value} {xs : List Int} (h : Bytes w v xs) : Bytes w' v xs := Own.mod hm h (by simp)

theorem xor0 {x : Int} (h0 : 0 ≤ x) (h1 : x < 256) : bits .xor .u8 x 0 = x := by
  rw [u8_xor x 0 h0 h1 (by decide) (by decide)]
  simp; omega

theorem Own.one1 {w : World} {E : Nat} {x : Value} : Own (w.alloc (.cells #[x] E)) E 1 (.slice (some ⟨w.heap.size, 0, none⟩) 1 1) [[x]] :=
  Own.lit w E 1 [[x]] (by simp) (by simp [maxLen]) [x] rfl

theorem pow_28 (n : Int) (i : Nat) : n / 2 ^ (8 * (i : Int)).toNat = n / 256 ^ i := by
  have : (8 * (i : Int)).toNat = 8 * i := by omega
  rw [this, Int.pow_mul]
  rfl

theorem pow_8m (n : Int) (i : Nat) : n / 2 ^ (8 * i) = n / 256 ^ i := by
  rw [Int.pow_mul]
  rfl

/-- the second loop, from its head on -/
def intRest (n : Int) (k : Nat) : List Int := (128 + (k : Int)) :: beB n k k

set_option maxHeartbeats 1000000 in
theorem wireInt_any (n : Int) (w : World) (h0 : 0 ≤ n) (h1 : n ≤ 9223372036854775807) :
    Calls Try.prog 70 #[.int .i64 n] w (BytesPost (intB n) w) := by
  obtain ⟨xs, hxs⟩ : ∃ xs, intB n = xs := ⟨_, rfl⟩
  rw [hxs]
  have HXS := Lib.hid hxs
  clear hxs
  go_enter Try.func70, Try.ntmps70
  go_wp2
  go_step3
  go_wp2
  go_step3
  go_wp2_with fail
  go_loopw [5] (fun s5 wr => ∃ k : Nat, k ≤ 8 ∧ s5 = .int .i64 k ∧ Hid (∀ j, k ≤ j → j < 8 → ¬ n / 256 ^ j > 0) ∧ w = wr) (fun s5 _ => (intOf s5).toNat)
  case atStart => exact ⟨8, by omega, rfl, Lib.hid (fun j h1 h2 => by omega), rfl⟩
  case round =>
    obtain ⟨k, hk, rfl, HK, rfl⟩ := hrel
    have hx0 : ∀ k : Nat, k ≤ 8 → bits .xor .u8 (128 + (k : Int)) 0 = 128 + (k : Int) := fun k hk => xor0 (by omega) (by omega)
    have hcase : k = 0 ∨ k = 1 ∨ k = 2 ∨ k = 3 ∨ k = 4 ∨ k = 5 ∨ k = 6 ∨ k = 7 ∨ k = 8 := by omega
    have HX0 := Lib.hid hx0
    clear hx0
    rcases hcase with rfl | rfl | rfl | rfl | rfl | rfl | rfl | rfl | rfl
    · have e : bits .xor .u8 128 0 = 128 := xor0 (x := 128) (by omega) (by omega)
      have hb := blen_of (n := n) (m := 8) (k := 0) (by omega) HK.out (.inl rfl)
      have HB := Lib.hid hb
      clear hb
      go_wp2_with fail
      go_loopw [6, 7] (fun s6 s7 wr => ∃ i j : Nat, j + i = 0 ∧ ((i = 0 ∧ s7 = .int .i64 (-1)) ∨ ∃ m : Nat, i = m + 1 ∧ s7 = .int .i64 m) ∧ Hid (Bytes wr s6 (128 :: beB n 0 j)) ∧ FreshN w.heap.size s6 ∧ Mod [] w wr) (fun _ s7 _ => (intOf s7 + 1).toNat)
      case atStart =>
        refine ⟨0, 0, by omega, .inl ⟨rfl, rfl⟩, ?_, by intro g hg; simp [Value.ownBlock] at hg; omega, (Mod.refl _ _).alloc _⟩
        exact Own.one1
      case round =>
        obtain ⟨i, j, hij, hs7, HB6, hfr, hm⟩ := hrel
        rcases hs7 with ⟨rfl, rfl⟩ | ⟨m, rfl, rfl⟩
        · obtain rfl : j = 0 := by omega
          go_wp2
          go_ret
          refine ⟨u6, rfl, ?_, hm, hfr⟩
          rw [← HXS.out, intB, HB.out]
          exact HB6.out
        · exfalso; omega
    · have e : bits .xor .u8 129 0 = 129 := xor0 (x := 129) (by omega) (by omega)
      by_cases hd : (0 : Int) < n
      · have hb := blen_of (n := n) (m := 8) (k := 1) (by omega) HK.out (.inr (by simpa using hd))
        have HB := Lib.hid hb
        clear hb
        go_wp2_with fail
        go_loopw [6, 7] (fun s6 s7 wr => ∃ i j : Nat, j + i = 1 ∧ ((i = 0 ∧ s7 = .int .i64 (-1)) ∨ ∃ m : Nat, i = m + 1 ∧ s7 = .int .i64 m) ∧ Hid (Bytes wr s6 (129 :: beB n 1 j)) ∧ FreshN w.heap.size s6 ∧ Mod [] w wr) (fun _ s7 _ => (intOf s7 + 1).toNat)
        case atStart =>
          refine ⟨1, 0, by omega, .inr ⟨0, rfl, rfl⟩, ?_, by intro g hg; simp [Value.ownBlock] at hg; omega, (Mod.refl _ _).alloc _⟩
          exact Own.one1
        case round =>
          obtain ⟨i, j, hij, hs7, HB6, hfr, hm⟩ := hrel
          rcases hs7 with ⟨rfl, rfl⟩ | ⟨m, rfl, rfl⟩
          · obtain rfl : j = 1 := by omega
            go_wp2
            go_ret
            refine ⟨u6, rfl, ?_, hm, hfr⟩
            rw [← HXS.out, intB, HB.out]
            exact HB6.out
          · skip
            have hm8 : m < 8 := by omega
            have hl := beB_len n 1 j
            go_wp2_with (at_builtin; refine wpList_append_Own sty_byte rfl (.tmp 36) (.tmp 44) rfl u6 (.slice (some ⟨wr.heap.size, 0, none⟩) 1 1) rfl rfl _ [_] (Bytes.mod0 ((Mod.refl [] wr).alloc _) HB6.out) (Src.one rfl (Row.of_heap (heap_alloc_at _ _))) (by simp [Value.oneCell']) (by simp [maxLen, hl]; omega) (by simp [hl]; omega) ?_; intro v' w3 hown' hm3 hfr'; clear hl)
            go_roundw
            case rel =>
              refine ⟨m, j + 1, by omega, ?_, ?_, hfr.or hfr' (by have := hm.size; simp; omega), (hm.alloc _).trans hm3 (fun x hx => .inr (hfr x (by simpa using hx)))⟩
              · rcases m with _ | q
                · exact .inl ⟨rfl, by simp⟩
                · exact .inr ⟨q, rfl, int_eq (by omega)⟩
              · show Bytes _ _ _
                rw [beB_succ]
                have e2 : 1 - 1 - j = m := by omega
                rw [e2]
                have e3 : bits .xor .u8 (n / 2 ^ (8 * m) % 256) 0 = n / 256 ^ m % 256 := by
                  rw [pow_8m]
                  exact xor0 (x := n / 256 ^ m % 256) (Int.emod_nonneg _ (by decide)) (Int.emod_lt_of_pos _ (by decide))
                simp only [e3] at hown'
                simpa [Bytes] using hown'
            case measure => (simp [intOf]; try omega)
      · have HD := Lib.hid hd
        go_wp2
        go_roundw
        case rel =>
          refine ⟨0, by omega, rfl, Lib.hid (fun j h1 h2 => ?_), by simp⟩
          by_cases ej : j = 0
          · subst ej; simpa using HD.out
          · exact HK.out j (by omega) h2
        case measure => simp [intOf]
    · have e : bits .xor .u8 130 0 = 130 := xor0 (x := 130) (by omega) (by omega)
      by_cases hd : (0 : Int) < n / 256
      · have hb := blen_of (n := n) (m := 8) (k := 2) (by omega) HK.out (.inr (by simpa using hd))
        have HB := Lib.hid hb
        clear hb
        go_wp2_with fail
        go_loopw [6, 7] (fun s6 s7 wr => ∃ i j : Nat, j + i = 2 ∧ ((i = 0 ∧ s7 = .int .i64 (-1)) ∨ ∃ m : Nat, i = m + 1 ∧ s7 = .int .i64 m) ∧ Hid (Bytes wr s6 (130 :: beB n 2 j)) ∧ FreshN w.heap.size s6 ∧ Mod [] w wr) (fun _ s7 _ => (intOf s7 + 1).toNat)
        case atStart =>
          refine ⟨2, 0, by omega, .inr ⟨1, rfl, rfl⟩, ?_, by intro g hg; simp [Value.ownBlock] at hg; omega, (Mod.refl _ _).alloc _⟩
          exact Own.one1
        case round =>
          obtain ⟨i, j, hij, hs7, HB6, hfr, hm⟩ := hrel
          rcases hs7 with ⟨rfl, rfl⟩ | ⟨m, rfl, rfl⟩
          · obtain rfl : j = 2 := by omega
            go_wp2
            go_ret
            refine ⟨u6, rfl, ?_, hm, hfr⟩
            rw [← HXS.out, intB, HB.out]
            exact HB6.out
          · skip
            have hm8 : m < 8 := by omega
            have hl := beB_len n 2 j
            go_wp2_with (at_builtin; refine wpList_append_Own sty_byte rfl (.tmp 36) (.tmp 44) rfl u6 (.slice (some ⟨wr.heap.size, 0, none⟩) 1 1) rfl rfl _ [_] (Bytes.mod0 ((Mod.refl [] wr).alloc _) HB6.out) (Src.one rfl (Row.of_heap (heap_alloc_at _ _))) (by simp [Value.oneCell']) (by simp [maxLen, hl]; omega) (by simp [hl]; omega) ?_; intro v' w3 hown' hm3 hfr'; clear hl)
            go_roundw
            case rel =>
              refine ⟨m, j + 1, by omega, ?_, ?_, hfr.or hfr' (by have := hm.size; simp; omega), (hm.alloc _).trans hm3 (fun x hx => .inr (hfr x (by simpa using hx)))⟩
              · rcases m with _ | q
                · exact .inl ⟨rfl, by simp⟩
                · exact .inr ⟨q, rfl, int_eq (by omega)⟩
              · show Bytes _ _ _
                rw [beB_succ]
                have e2 : 2 - 1 - j = m := by omega
                rw [e2]
                have e3 : bits .xor .u8 (n / 2 ^ (8 * m) % 256) 0 = n / 256 ^ m % 256 := by
                  rw [pow_8m]
                  exact xor0 (x := n / 256 ^ m % 256) (Int.emod_nonneg _ (by decide)) (Int.emod_lt_of_pos _ (by decide))
                simp only [e3] at hown'
                simpa [Bytes] using hown'
            case measure => (simp [intOf]; try omega)
      · have HD := Lib.hid hd
        go_wp2
        go_roundw
        case rel =>
          refine ⟨1, by omega, rfl, Lib.hid (fun j h1 h2 => ?_), by simp⟩
          by_cases ej : j = 1
          · subst ej; simpa using HD.out
          · exact HK.out j (by omega) h2
        case measure => simp [intOf]
    · have e : bits .xor .u8 131 0 = 131 := xor0 (x := 131) (by omega) (by omega)
      by_cases hd : (0 : Int) < n / 65536
      · have hb := blen_of (n := n) (m := 8) (k := 3) (by omega) HK.out (.inr (by simpa using hd))
        have HB := Lib.hid hb
        clear hb
        go_wp2_with fail
        go_loopw [6, 7] (fun s6 s7 wr => ∃ i j : Nat, j + i = 3 ∧ ((i = 0 ∧ s7 = .int .i64 (-1)) ∨ ∃ m : Nat, i = m + 1 ∧ s7 = .int .i64 m) ∧ Hid (Bytes wr s6 (131 :: beB n 3 j)) ∧ FreshN w.heap.size s6 ∧ Mod [] w wr) (fun _ s7 _ => (intOf s7 + 1).toNat)
        case atStart =>
          refine ⟨3, 0, by omega, .inr ⟨2, rfl, rfl⟩, ?_, by intro g hg; simp [Value.ownBlock] at hg; omega, (Mod.refl _ _).alloc _⟩
          exact Own.one1
        case round =>
          obtain ⟨i, j, hij, hs7, HB6, hfr, hm⟩ := hrel
          rcases hs7 with ⟨rfl, rfl⟩ | ⟨m, rfl, rfl⟩
          · obtain rfl : j = 3 := by omega
            go_wp2
            go_ret
            refine ⟨u6, rfl, ?_, hm, hfr⟩
            rw [← HXS.out, intB, HB.out]
            exact HB6.out
          · skip
            have hm8 : m < 8 := by omega
            have hl := beB_len n 3 j
            go_wp2_with (at_builtin; refine wpList_append_Own sty_byte rfl (.tmp 36) (.tmp 44) rfl u6 (.slice (some ⟨wr.heap.size, 0, none⟩) 1 1) rfl rfl _ [_] (Bytes.mod0 ((Mod.refl [] wr).alloc _) HB6.out) (Src.one rfl (Row.of_heap (heap_alloc_at _ _))) (by simp [Value.oneCell']) (by simp [maxLen, hl]; omega) (by simp [hl]; omega) ?_; intro v' w3 hown' hm3 hfr'; clear hl)
            go_roundw
            case rel =>
              refine ⟨m, j + 1, by omega, ?_, ?_, hfr.or hfr' (by have := hm.size; simp; omega), (hm.alloc _).trans hm3 (fun x hx => .inr (hfr x (by simpa using hx)))⟩
              · rcases m with _ | q
                · exact .inl ⟨rfl, by simp⟩
                · exact .inr ⟨q, rfl, int_eq (by omega)⟩
              · show Bytes _ _ _
                rw [beB_succ]
                have e2 : 3 - 1 - j = m := by omega
                rw [e2]
                have e3 : bits .xor .u8 (n / 2 ^ (8 * m) % 256) 0 = n / 256 ^ m % 256 := by
                  rw [pow_8m]
                  exact xor0 (x := n / 256 ^ m % 256) (Int.emod_nonneg _ (by decide)) (Int.emod_lt_of_pos _ (by decide))
                simp only [e3] at hown'
                simpa [Bytes] using hown'
            case measure => (simp [intOf]; try omega)
      · have HD := Lib.hid hd
        go_wp2
        go_roundw
        case rel =>
          refine ⟨2, by omega, rfl, Lib.hid (fun j h1 h2 => ?_), by simp⟩
          by_cases ej : j = 2
          · subst ej; simpa using HD.out
          · exact HK.out j (by omega) h2
        case measure => simp [intOf]
    · have e : bits .xor .u8 132 0 = 132 := xor0 (x := 132) (by omega) (by omega)
      by_cases hd : (0 : Int) < n / 16777216
      · have hb := blen_of (n := n) (m := 8) (k := 4) (by omega) HK.out (.inr (by simpa using hd))
        have HB := Lib.hid hb
        clear hb
        go_wp2_with fail
        go_loopw [6, 7] (fun s6 s7 wr => ∃ i j : Nat, j + i = 4 ∧ ((i = 0 ∧ s7 = .int .i64 (-1)) ∨ ∃ m : Nat, i = m + 1 ∧ s7 = .int .i64 m) ∧ Hid (Bytes wr s6 (132 :: beB n 4 j)) ∧ FreshN w.heap.size s6 ∧ Mod [] w wr) (fun _ s7 _ => (intOf s7 + 1).toNat)
        case atStart =>
          refine ⟨4, 0, by omega, .inr ⟨3, rfl, rfl⟩, ?_, by intro g hg; simp [Value.ownBlock] at hg; omega, (Mod.refl _ _).alloc _⟩
          exact Own.one1
        case round =>
          obtain ⟨i, j, hij, hs7, HB6, hfr, hm⟩ := hrel
          rcases hs7 with ⟨rfl, rfl⟩ | ⟨m, rfl, rfl⟩
          · obtain rfl : j = 4 := by omega
            go_wp2
            go_ret
            refine ⟨u6, rfl, ?_, hm, hfr⟩
            rw [← HXS.out, intB, HB.out]
            exact HB6.out
          · skip
            have hm8 : m < 8 := by omega
            have hl := beB_len n 4 j
            go_wp2_with (at_builtin; refine wpList_append_Own sty_byte rfl (.tmp 36) (.tmp 44) rfl u6 (.slice (some ⟨wr.heap.size, 0, none⟩) 1 1) rfl rfl _ [_] (Bytes.mod0 ((Mod.refl [] wr).alloc _) HB6.out) (Src.one rfl (Row.of_heap (heap_alloc_at _ _))) (by simp [Value.oneCell']) (by simp [maxLen, hl]; omega) (by simp [hl]; omega) ?_; intro v' w3 hown' hm3 hfr'; clear hl)
            go_roundw
            case rel =>
              refine ⟨m, j + 1, by omega, ?_, ?_, hfr.or hfr' (by have := hm.size; simp; omega), (hm.alloc _).trans hm3 (fun x hx => .inr (hfr x (by simpa using hx)))⟩
              · rcases m with _ | q
                · exact .inl ⟨rfl, by simp⟩
                · exact .inr ⟨q, rfl, int_eq (by omega)⟩
              · show Bytes _ _ _
                rw [beB_succ]
                have e2 : 4 - 1 - j = m := by omega
                rw [e2]
                have e3 : bits .xor .u8 (n / 2 ^ (8 * m) % 256) 0 = n / 256 ^ m % 256 := by
                  rw [pow_8m]
                  exact xor0 (x := n / 256 ^ m % 256) (Int.emod_nonneg _ (by decide)) (Int.emod_lt_of_pos _ (by decide))
                simp only [e3] at hown'
                simpa [Bytes] using hown'
            case measure => (simp [intOf]; try omega)
      · have HD := Lib.hid hd
        go_wp2
        go_roundw
        case rel =>
          refine ⟨3, by omega, rfl, Lib.hid (fun j h1 h2 => ?_), by simp⟩
          by_cases ej : j = 3
          · subst ej; simpa using HD.out
          · exact HK.out j (by omega) h2
        case measure => simp [intOf]
    · have e : bits .xor .u8 133 0 = 133 := xor0 (x := 133) (by omega) (by omega)
      by_cases hd : (0 : Int) < n / 4294967296
      · have hb := blen_of (n := n) (m := 8) (k := 5) (by omega) HK.out (.inr (by simpa using hd))
        have HB := Lib.hid hb
        clear hb
        go_wp2_with fail
        go_loopw [6, 7] (fun s6 s7 wr => ∃ i j : Nat, j + i = 5 ∧ ((i = 0 ∧ s7 = .int .i64 (-1)) ∨ ∃ m : Nat, i = m + 1 ∧ s7 = .int .i64 m) ∧ Hid (Bytes wr s6 (133 :: beB n 5 j)) ∧ FreshN w.heap.size s6 ∧ Mod [] w wr) (fun _ s7 _ => (intOf s7 + 1).toNat)
        case atStart =>
          refine ⟨5, 0, by omega, .inr ⟨4, rfl, rfl⟩, ?_, by intro g hg; simp [Value.ownBlock] at hg; omega, (Mod.refl _ _).alloc _⟩
          exact Own.one1
        case round =>
          obtain ⟨i, j, hij, hs7, HB6, hfr, hm⟩ := hrel
          rcases hs7 with ⟨rfl, rfl⟩ | ⟨m, rfl, rfl⟩
          · obtain rfl : j = 5 := by omega
            go_wp2
            go_ret
            refine ⟨u6, rfl, ?_, hm, hfr⟩
            rw [← HXS.out, intB, HB.out]
            exact HB6.out
          · skip
            have hm8 : m < 8 := by omega
            have hl := beB_len n 5 j
            go_wp2_with (at_builtin; refine wpList_append_Own sty_byte rfl (.tmp 36) (.tmp 44) rfl u6 (.slice (some ⟨wr.heap.size, 0, none⟩) 1 1) rfl rfl _ [_] (Bytes.mod0 ((Mod.refl [] wr).alloc _) HB6.out) (Src.one rfl (Row.of_heap (heap_alloc_at _ _))) (by simp [Value.oneCell']) (by simp [maxLen, hl]; omega) (by simp [hl]; omega) ?_; intro v' w3 hown' hm3 hfr'; clear hl)
            go_roundw
            case rel =>
              refine ⟨m, j + 1, by omega, ?_, ?_, hfr.or hfr' (by have := hm.size; simp; omega), (hm.alloc _).trans hm3 (fun x hx => .inr (hfr x (by simpa using hx)))⟩
              · rcases m with _ | q
                · exact .inl ⟨rfl, by simp⟩
                · exact .inr ⟨q, rfl, int_eq (by omega)⟩
              · show Bytes _ _ _
                rw [beB_succ]
                have e2 : 5 - 1 - j = m := by omega
                rw [e2]
                have e3 : bits .xor .u8 (n / 2 ^ (8 * m) % 256) 0 = n / 256 ^ m % 256 := by
                  rw [pow_8m]
                  exact xor0 (x := n / 256 ^ m % 256) (Int.emod_nonneg _ (by decide)) (Int.emod_lt_of_pos _ (by decide))
                simp only [e3] at hown'
                simpa [Bytes] using hown'
            case measure => (simp [intOf]; try omega)
      · have HD := Lib.hid hd
        go_wp2
        go_roundw
        case rel =>
          refine ⟨4, by omega, rfl, Lib.hid (fun j h1 h2 => ?_), by simp⟩
          by_cases ej : j = 4
          · subst ej; simpa using HD.out
          · exact HK.out j (by omega) h2
        case measure => simp [intOf]
    · have e : bits .xor .u8 134 0 = 134 := xor0 (x := 134) (by omega) (by omega)
      by_cases hd : (0 : Int) < n / 1099511627776
      · have hb := blen_of (n := n) (m := 8) (k := 6) (by omega) HK.out (.inr (by simpa using hd))
        have HB := Lib.hid hb
        clear hb
        go_wp2_with fail
        go_loopw [6, 7] (fun s6 s7 wr => ∃ i j : Nat, j + i = 6 ∧ ((i = 0 ∧ s7 = .int .i64 (-1)) ∨ ∃ m : Nat, i = m + 1 ∧ s7 = .int .i64 m) ∧ Hid (Bytes wr s6 (134 :: beB n 6 j)) ∧ FreshN w.heap.size s6 ∧ Mod [] w wr) (fun _ s7 _ => (intOf s7 + 1).toNat)
        case atStart =>
          refine ⟨6, 0, by omega, .inr ⟨5, rfl, rfl⟩, ?_, by intro g hg; simp [Value.ownBlock] at hg; omega, (Mod.refl _ _).alloc _⟩
          exact Own.one1
        case round =>
          obtain ⟨i, j, hij, hs7, HB6, hfr, hm⟩ := hrel
          rcases hs7 with ⟨rfl, rfl⟩ | ⟨m, rfl, rfl⟩
          · obtain rfl : j = 6 := by omega
            go_wp2
            go_ret
            refine ⟨u6, rfl, ?_, hm, hfr⟩
            rw [← HXS.out, intB, HB.out]
            exact HB6.out
          · skip
            have hm8 : m < 8 := by omega
            have hl := beB_len n 6 j
            go_wp2_with (at_builtin; refine wpList_append_Own sty_byte rfl (.tmp 36) (.tmp 44) rfl u6 (.slice (some ⟨wr.heap.size, 0, none⟩) 1 1) rfl rfl _ [_] (Bytes.mod0 ((Mod.refl [] wr).alloc _) HB6.out) (Src.one rfl (Row.of_heap (heap_alloc_at _ _))) (by simp [Value.oneCell']) (by simp [maxLen, hl]; omega) (by simp [hl]; omega) ?_; intro v' w3 hown' hm3 hfr'; clear hl)
            go_roundw
            case rel =>
              refine ⟨m, j + 1, by omega, ?_, ?_, hfr.or hfr' (by have := hm.size; simp; omega), (hm.alloc _).trans hm3 (fun x hx => .inr (hfr x (by simpa using hx)))⟩
              · rcases m with _ | q
                · exact .inl ⟨rfl, by simp⟩
                · exact .inr ⟨q, rfl, int_eq (by omega)⟩
              · show Bytes _ _ _
                rw [beB_succ]
                have e2 : 6 - 1 - j = m := by omega
                rw [e2]
                have e3 : bits .xor .u8 (n / 2 ^ (8 * m) % 256) 0 = n / 256 ^ m % 256 := by
                  rw [pow_8m]
                  exact xor0 (x := n / 256 ^ m % 256) (Int.emod_nonneg _ (by decide)) (Int.emod_lt_of_pos _ (by decide))
                simp only [e3] at hown'
                simpa [Bytes] using hown'
            case measure => (simp [intOf]; try omega)
      · have HD := Lib.hid hd
        go_wp2
        go_roundw
        case rel =>
          refine ⟨5, by omega, rfl, Lib.hid (fun j h1 h2 => ?_), by simp⟩
          by_cases ej : j = 5
          · subst ej; simpa using HD.out
          · exact HK.out j (by omega) h2
        case measure => simp [intOf]
    · have e : bits .xor .u8 135 0 = 135 := xor0 (x := 135) (by omega) (by omega)
      by_cases hd : (0 : Int) < n / 281474976710656
      · have hb := blen_of (n := n) (m := 8) (k := 7) (by omega) HK.out (.inr (by simpa using hd))
        have HB := Lib.hid hb
        clear hb
        go_wp2_with fail
        go_loopw [6, 7] (fun s6 s7 wr => ∃ i j : Nat, j + i = 7 ∧ ((i = 0 ∧ s7 = .int .i64 (-1)) ∨ ∃ m : Nat, i = m + 1 ∧ s7 = .int .i64 m) ∧ Hid (Bytes wr s6 (135 :: beB n 7 j)) ∧ FreshN w.heap.size s6 ∧ Mod [] w wr) (fun _ s7 _ => (intOf s7 + 1).toNat)
        case atStart =>
          refine ⟨7, 0, by omega, .inr ⟨6, rfl, rfl⟩, ?_, by intro g hg; simp [Value.ownBlock] at hg; omega, (Mod.refl _ _).alloc _⟩
          exact Own.one1
        case round =>
          obtain ⟨i, j, hij, hs7, HB6, hfr, hm⟩ := hrel
          rcases hs7 with ⟨rfl, rfl⟩ | ⟨m, rfl, rfl⟩
          · obtain rfl : j = 7 := by omega
            go_wp2
            go_ret
            refine ⟨u6, rfl, ?_, hm, hfr⟩
            rw [← HXS.out, intB, HB.out]
            exact HB6.out
          · skip
            have hm8 : m < 8 := by omega
            have hl := beB_len n 7 j
            go_wp2_with (at_builtin; refine wpList_append_Own sty_byte rfl (.tmp 36) (.tmp 44) rfl u6 (.slice (some ⟨wr.heap.size, 0, none⟩) 1 1) rfl rfl _ [_] (Bytes.mod0 ((Mod.refl [] wr).alloc _) HB6.out) (Src.one rfl (Row.of_heap (heap_alloc_at _ _))) (by simp [Value.oneCell']) (by simp [maxLen, hl]; omega) (by simp [hl]; omega) ?_; intro v' w3 hown' hm3 hfr'; clear hl)
            go_roundw
            case rel =>
              refine ⟨m, j + 1, by omega, ?_, ?_, hfr.or hfr' (by have := hm.size; simp; omega), (hm.alloc _).trans hm3 (fun x hx => .inr (hfr x (by simpa using hx)))⟩
              · rcases m with _ | q
                · exact .inl ⟨rfl, by simp⟩
                · exact .inr ⟨q, rfl, int_eq (by omega)⟩
              · show Bytes _ _ _
                rw [beB_succ]
                have e2 : 7 - 1 - j = m := by omega
                rw [e2]
                have e3 : bits .xor .u8 (n / 2 ^ (8 * m) % 256) 0 = n / 256 ^ m % 256 := by
                  rw [pow_8m]
                  exact xor0 (x := n / 256 ^ m % 256) (Int.emod_nonneg _ (by decide)) (Int.emod_lt_of_pos _ (by decide))
                simp only [e3] at hown'
                simpa [Bytes] using hown'
            case measure => (simp [intOf]; try omega)
      · have HD := Lib.hid hd
        go_wp2
        go_roundw
        case rel =>
          refine ⟨6, by omega, rfl, Lib.hid (fun j h1 h2 => ?_), by simp⟩
          by_cases ej : j = 6
          · subst ej; simpa using HD.out
          · exact HK.out j (by omega) h2
        case measure => simp [intOf]
    · have e : bits .xor .u8 136 0 = 136 := xor0 (x := 136) (by omega) (by omega)
      by_cases hd : (0 : Int) < n / 72057594037927936
      · have hb := blen_of (n := n) (m := 8) (k := 8) (by omega) HK.out (.inr (by simpa using hd))
        have HB := Lib.hid hb
        clear hb
        go_wp2_with fail
        go_loopw [6, 7] (fun s6 s7 wr => ∃ i j : Nat, j + i = 8 ∧ ((i = 0 ∧ s7 = .int .i64 (-1)) ∨ ∃ m : Nat, i = m + 1 ∧ s7 = .int .i64 m) ∧ Hid (Bytes wr s6 (136 :: beB n 8 j)) ∧ FreshN w.heap.size s6 ∧ Mod [] w wr) (fun _ s7 _ => (intOf s7 + 1).toNat)
        case atStart =>
          refine ⟨8, 0, by omega, .inr ⟨7, rfl, rfl⟩, ?_, by intro g hg; simp [Value.ownBlock] at hg; omega, (Mod.refl _ _).alloc _⟩
          exact Own.one1
        case round =>
          obtain ⟨i, j, hij, hs7, HB6, hfr, hm⟩ := hrel
          rcases hs7 with ⟨rfl, rfl⟩ | ⟨m, rfl, rfl⟩
          · obtain rfl : j = 8 := by omega
            go_wp2
            go_ret
            refine ⟨u6, rfl, ?_, hm, hfr⟩
            rw [← HXS.out, intB, HB.out]
            exact HB6.out
          · skip
            have hm8 : m < 8 := by omega
            have hl := beB_len n 8 j
            go_wp2_with (at_builtin; refine wpList_append_Own sty_byte rfl (.tmp 36) (.tmp 44) rfl u6 (.slice (some ⟨wr.heap.size, 0, none⟩) 1 1) rfl rfl _ [_] (Bytes.mod0 ((Mod.refl [] wr).alloc _) HB6.out) (Src.one rfl (Row.of_heap (heap_alloc_at _ _))) (by simp [Value.oneCell']) (by simp [maxLen, hl]; omega) (by simp [hl]; omega) ?_; intro v' w3 hown' hm3 hfr'; clear hl)
            go_roundw
            case rel =>
              refine ⟨m, j + 1, by omega, ?_, ?_, hfr.or hfr' (by have := hm.size; simp; omega), (hm.alloc _).trans hm3 (fun x hx => .inr (hfr x (by simpa using hx)))⟩
              · rcases m with _ | q
                · exact .inl ⟨rfl, by simp⟩
                · exact .inr ⟨q, rfl, int_eq (by omega)⟩
              · show Bytes _ _ _
                rw [beB_succ]
                have e2 : 8 - 1 - j = m := by omega
                rw [e2]
                have e3 : bits .xor .u8 (n / 2 ^ (8 * m) % 256) 0 = n / 256 ^ m % 256 := by
                  rw [pow_8m]
                  exact xor0 (x := n / 256 ^ m % 256) (Int.emod_nonneg _ (by decide)) (Int.emod_lt_of_pos _ (by decide))
                simp only [e3] at hown'
                simpa [Bytes] using hown'
            case measure => (simp [intOf]; try omega)
      · have HD := Lib.hid hd
        go_wp2
        go_roundw
        case rel =>
          refine ⟨7, by omega, rfl, Lib.hid (fun j h1 h2 => ?_), by simp⟩
          by_cases ej : j = 7
          · subst ej; simpa using HD.out
          · exact HK.out j (by omega) h2
        case measure => simp [intOf]

end Go.Proofs.Ytknkifanpppglaa

/- Walks: Encode's inner function. -/
namespace Go.Proofs.Ytknkifanpppglaa
open Go.RowKit

/-- block ob holds the slice v, which owns the bytes xs -/
structure Outv (w : World) (ob : Nat) (v : Value) (xs : List Int) : Prop where
  blk : w.heap[ob]? = some (.cells #[v] 70 (0, 0))
  bytes : Bytes w v xs
  ne : v.ownBlock ≠ some ob

def PutPost (ob : Nat) (v : Value) (xs : List Int) (w : World) (e : Ending) (w' : World) : Prop :=
  e = .returned (.tuple #[]) ∧ ∃ v', Outv w' ob v' xs ∧ Mod (ob :: v.ownBlock.toList) w w' ∧ FreshOr w v v'

theorem oneCell_bytes (xs : List Int) : ∀ q ∈ xs.map (fun x => [Value.int .u8 x]), ∀ u ∈ q, u.oneCell' = true := by
  intro q hq u hu
  obtain ⟨x, _, rfl⟩ := List.mem_map.1 hq
  simp at hu; subst hu; rfl

theorem Bytes.isSlice {w : World} {v : Value} {xs : List Int} (h : Bytes w v xs) : ∃ a n c, v = .slice a n c := Own.isSlice h

theorem FreshOr.trans {w w1 : World} {v v1 v2 : Value} (h : FreshOr w v v1) (h2 : FreshOr w1 v1 v2) (hs : w.heap.size ≤ w1.heap.size) : FreshOr w v v2 := by
  rcases h2 with h2 | ⟨g, h2, h3⟩
  · rcases h with h | ⟨g, h, h3⟩
    · exact .inl (h2.trans h)
    · exact .inr ⟨g, h2.trans h, h3⟩
  · exact .inr ⟨g, h2, by omega⟩

theorem FreshOr.ne {w : World} {v v' : Value} (h : FreshOr w v v') {b : Nat} (hb : b < w.heap.size) (hn : v.ownBlock ≠ some b) : v'.ownBlock ≠ some b := by
  rcases h with h | ⟨g, h, h3⟩
  · rw [h]; exact hn
  · rw [h]; intro e; cases e; omega

theorem heap_setCell1 (w : World) (ob : Nat) (v u : Value) (t : TypeId) (h : w.heap[ob]? = some (.cells #[v] t (0, 0))) : (w.setCell ⟨ob, 0, none⟩ u).heap[ob]? = some (.cells #[u] t (0, 0)) := by
  rw [heap_setCell_same w ob 0 _ _ _ h]; rfl

theorem splice_one1 (v u : Value) : splice [v] 0 [u] = [u] := rfl

theorem step_append_Own {P : Program} {t e size bytes : Nat} (T : STy P t e size bytes) {ops : Array Oper} {o : Oper} {a : Act} {w : World} {K : Act → World → Prop} {Q : Exit → Act → World → Prop} {E : Prop} (hgd : o.guard = none) (s y : Operand)
    (hop : o.op = .call { callee := .builtin .append, args := #[s, y], argTypes := #[t, t] })
    (v x : Value) (hs : a.eval s = v) (hy : a.eval y = x) (es ns : List (List Value)) (ho : Own w e size v es) (hx : Src w size x ns)
    (h1 : ∀ r ∈ ns, ∀ u ∈ r, u.oneCell' = true) (hn : es.length + ns.length ≤ maxLen) (hb : (es.length + ns.length) * bytes ≤ 140737488355328)
    (h : ∀ a' n c w', Own w' e size (.slice a' n c) (es ++ ns) → Mod v.ownBlock.toList w w' → FreshOr w v (.slice a' n c) → K (a.put o.dst (.slice a' n c)) w') :
    if Region.wanted o (yielded ops a.tmps) = true then Oper.wp P o a w K Q else E := by
  have hw : Region.wanted o (yielded ops a.tmps) = true := by simp [Region.wanted, hgd]
  rw [if_pos hw]
  obtain ⟨v', w', hr, h2, h3, h4⟩ := run_append_Own T w o.type v x es ns ho hx h1 hn hb
  obtain ⟨a', n, c, rfl⟩ := Own.isSlice h2
  unfold Oper.wp execOp
  simp only [hop, resolve, invoke, builtin, Sem.run_bind, Sem.run_pure, Result.andThen_ok, List.map_toArray, List.map_cons, List.map_nil, hs, hy, hr]
  exact h a' n c w' h2 h3 h4

set_option maxRecDepth 100000 in
set_option maxHeartbeats 1000000 in
theorem put_any (w : World) (ob g : Nat) (v : Value) (xs ns : List Int) (h : Outv w ob v xs) (hg : ∀ k x, ns[k]? = some x → w.cell? ⟨g, k, none⟩ = some (.int .i64 x)) (hgo : g ≠ ob) (hgv : v.ownBlock ≠ some g)
    (hn : ∀ x ∈ ns, 0 ≤ x ∧ x ≤ 9223372036854775807) (hl : ns.length ≤ 1000) (hx : xs.length ≤ 1000000000000) (cap : Nat) :
    Calls Try.prog 71 #[.slice (some ⟨g, 0, none⟩) ns.length cap, .pointer (some ⟨ob, 0, none⟩)] w (PutPost ob v (xs ++ (ns.map intB).flatten) w) := by
  obtain ⟨n, hnn⟩ : ∃ n, ns.length = n := ⟨_, rfl⟩
  rw [hnn] at hl ⊢
  have hob := lt_of_heap h.blk
  have HO := Lib.hid h
  have HG := Lib.hid hg
  have HN := Lib.hid hn
  have HNN := Lib.hid hnn
  have HGO := Lib.hid hgo
  have HGV := Lib.hid hgv
  clear h hg hn hnn hgo hgv
  go_enter Try.func71, Try.ntmps71
  go_wp2
  go_loopw [4, 7] (fun s4 s7 wr => ∃ k : Nat, k ≤ n ∧ s7 = .int .i64 k ∧ Hid (∃ v', Outv wr ob v' (xs ++ ((ns.take k).map intB).flatten) ∧ Mod (ob :: v.ownBlock.toList) w wr ∧ FreshOr w v v')) (fun _ s7 _ => n - (intOf s7).toNat)
  case atStart => exact ⟨0, by omega, rfl, Lib.hid ⟨v, by simpa using HO.out, Mod.refl _ _, .inl rfl⟩⟩
  case round =>
    obtain ⟨k, hk, rfl, HS⟩ := hrel
    by_cases hlt : k < n
    · obtain ⟨x, hx1⟩ : ∃ x, ns[k]? = some x := ⟨_, List.getElem?_eq_getElem (by have := HNN.out; omega)⟩
      obtain ⟨v', hov, hm, hfr⟩ := HS.out
      have hnx := HN.out x (List.mem_of_getElem? hx1)
      have cx := hm.cell (HG.out k x hx1) (by
        intro hmem
        rcases List.mem_cons.1 hmem with e | e
        · exact HGO.out e
        · exact HGV.out (by simpa using e))
      have c0 : wr.cell? ⟨ob, 0, none⟩ = some v' := by rw [cell_of_row _ _ _ _ _ _ hov.blk]; rfl
      have hbl : (xs ++ ((ns.take k).map intB).flatten).length ≤ 1000000009000 := by
        have e1 : ∀ q : List Int, ((q.map intB).flatten).length ≤ 9 * q.length := by
          intro q
          induction q with
          | nil => simp
          | cons a q ih => have := intB_len a; rw [List.map_cons, List.flatten_cons, List.length_append, List.length_cons]; omega
        have := e1 (ns.take k)
        have h2 := List.length_take_le k ns
        have h3 := List.length_take_le' k ns
        rw [HNN.out] at h3
        simp only [List.length_append]
        omega
      have hix := intB_len x
      have htk : (ns.take (k + 1)).map intB = (ns.take k).map intB ++ [intB x] := by rw [take_snoc' hx1, List.map_append]; rfl
      obtain ⟨sa, sn, sc, rfl⟩ := hov.bytes.isSlice
      have HOV := Lib.hid hov
      have HM := Lib.hid hm
      have HFR := Lib.hid hfr
      have HTK := Lib.hid htk
      have HBL := Lib.hid hbl
      have HIX := Lib.hid hix
      clear hov hm hfr htk hbl hix hx1
      go_wp2
      go_region_law (first | ((refine step_append_Own sty_byte (by rfl) (.tmp 11) (.tmp 13) (by rfl) (.slice sa sn sc) vb (by rfl) (by rfl) _ _ (Bytes.mod0 (((Mod.refl [] wr).drew).trans_nil hm2) HOV.out.bytes) (Own.src hvb) (oneCell_bytes _) (by have := HBL.out; have := HIX.out; simp only [List.length_map, maxLen]; omega) (by have := HBL.out; have := HIX.out; simp only [List.length_map]; omega) ?_; intro ta tn tc w3 hown3 hm3 hfr3; have hblk3 := hm3.heap ((((Mod.refl [] wr).drew).trans_nil hm2).heap HOV.out.blk (by simp)) (by simpa using fun e => HOV.out.ne e); have fz3 := free_of_one hblk3; have ct3 : w3.cell? ⟨ob, 0, none⟩ = some (.slice sa sn sc) := (by rw [cell_of_row _ _ _ _ _ _ hblk3]; rfl); have HB3 := Lib.hid hblk3; clear hblk3)) | (go_simp; go_at_call 70; refine (wireInt_any x _ (by omega) (by omega)).mono ?_; rintro e w2 ⟨vb, rfl, hvb, hm2, hf2⟩; have c02 := ((((Mod.refl [] wr).drew).trans_nil hm2).cell c0 (by simp))))
      all_goals
        go_wp2
        go_roundw
        case rel =>
          have hm12 : Mod [] wr w2 := ((Mod.refl [] wr).drew).trans_nil hm2
          have hfo : FreshOr w2 (.slice sa sn sc) (.slice ta tn tc) := hfr3
          have hne3 : (Value.slice ta tn tc).ownBlock ≠ some ob := hfo.ne (by have := hm12.size; have := lt_of_heap HOV.out.blk; omega) HOV.out.ne
          have hh4 := heap_setCell1 w3 ob _ (.slice ta tn tc) _ HB3.out
          have hm4 : Mod [ob] w3 (w3.setCell ⟨ob, 0, none⟩ (.slice ta tn tc)) := (Mod.refl _ _).setCell _ _ (by simp)
          refine ⟨k + 1, by omega, by go_num, Lib.hid ⟨.slice ta tn tc, ⟨hh4, ?_, hne3⟩, ?_, HFR.out.trans hfo (by have := HM.out.size; have := hm12.size; omega)⟩⟩
          · rw [HTK.out, List.flatten_append, ← List.append_assoc]
            have := Own.mod hm4 hown3 (fun b hb => by simp; intro e; subst e; exact hne3 hb)
            show Own _ _ _ _ _
            rw [List.map_append]
            simpa using this
          · refine HM.out.trans (S' := ob :: (Value.slice sa sn sc).ownBlock.toList) ((hm12.nil.trans hm3 (fun x hx => .inl (List.mem_cons_of_mem _ hx))).trans hm4 (by simp)) (fun x hx => ?_)
            rcases List.mem_cons.1 hx with rfl | hx
            · exact .inl (by simp)
            · rcases HFR.out with e | ⟨q, e, hq⟩
              · rw [e] at hx; exact .inl (List.mem_cons_of_mem _ hx)
              · rw [e] at hx; simp at hx; subst hx; exact .inr hq
        case measure => simp [intOf]; omega
    · obtain rfl : k = n := by omega
      go_wp2
      go_end0
      obtain ⟨v', hov, hm, hfr⟩ := HS.out
      rw [List.take_of_length_le (by have := HNN.out; omega)] at hov
      exact ⟨rfl, v', hov, hm, hfr⟩

end Go.Proofs.Ytknkifanpppglaa

/- Walks: Encode. -/
namespace Go.Proofs.Ytknkifanpppglaa
open Go.RowKit

/-- what can be encoded: each chunk's numbers are in range -/
structure Rng (c : Ck) : Prop where
  print : 0 ≤ c.print ∧ c.print < 4294967296
  dig : ∀ x ∈ c.dig, 0 ≤ x ∧ x < 256

structure EncSt (w0 : World) (ob cb : Nat) (w : World) (v : Value) (xs : List Int) (cs : List Value) : Prop where
  out : Outv w ob v xs
  row : Row w cb 0 cs
  ne : cb ≠ ob
  nev : v.ownBlock ≠ some cb
  mod : Mod [] w0 w
  ob0 : w0.heap.size ≤ ob
  v0 : FreshN w0.heap.size v
  lt : cb < w.heap.size

theorem EncSt.same {w0 w w1 : World} {ob cb : Nat} {v : Value} {xs : List Int} {cs : List Value} (h : EncSt w0 ob cb w v xs cs) (hm : Mod [] w w1) : EncSt w0 ob cb w1 v xs cs :=
  ⟨⟨hm.heap h.out.blk (by simp), Own.mod hm h.out.bytes (by simp), h.out.ne⟩, h.row.mod hm (by simp), h.ne, h.nev, h.mod.trans_nil hm, h.ob0, h.v0, Nat.lt_of_lt_of_le h.lt hm.size⟩

def EncPost (w0 : World) (ob cb : Nat) (xs : List Int) (cs : List Value) (e : Ending) (w' : World) : Prop :=
  e = .returned (.tuple #[]) ∧ ∃ v', EncSt w0 ob cb w' v' xs cs

theorem EncSt.notin {w0 w : World} {ob cb : Nat} {v : Value} {xs : List Int} {cs : List Value} (h : EncSt w0 ob cb w v xs cs) : cb ∉ ob :: v.ownBlock.toList := by
  intro hm
  rcases List.mem_cons.1 hm with e | e
  · exact h.ne e
  · exact h.nev (by simpa using e)

theorem put_enc {w0 w : World} {ob cb : Nat} {v : Value} {xs : List Int} {cs : List Value} (h : EncSt w0 ob cb w v xs cs) (ns : List Int) (hn : ∀ x ∈ ns, 0 ≤ x ∧ x ≤ 9223372036854775807) (hl : ns.length ≤ 1000) (hx : xs.length ≤ 1000000000000) (vals : Array Value) (hv : vals = (ns.map (Value.int .i64)).toArray) (m cap : Nat) (hm : m = ns.length) (g : Nat) (hg : g = w.heap.size) :
    Calls Try.prog 71 #[.slice (some ⟨g, 0, none⟩) m cap, .pointer (some ⟨ob, 0, none⟩)] (w.alloc (.cells vals 3)) (EncPost w0 ob cb (xs ++ (ns.map intB).flatten) cs) := by
  subst hv hm hg
  have hma : Mod [] w (w.alloc (.cells (ns.map (Value.int .i64)).toArray 3)) := (Mod.refl _ _).alloc _
  have hob := lt_of_heap h.out.blk
  have hvb : ∀ b, v.ownBlock = some b → b < w.heap.size := Own.lt h.out.bytes
  refine (put_any _ ob w.heap.size v xs ns ⟨hma.heap h.out.blk (by simp), h.out.bytes.mod0 hma, h.out.ne⟩ (fun k x hk => ?_) (by omega) (fun e => by have := hvb _ e; omega) hn hl hx cap).mono ?_
  · have hr := Row.of_heap (heap_alloc_at w (.cells (ns.map (Value.int .i64)).toArray 3))
    have := hr k (.int .i64 x) (by simp [hk])
    rwa [Nat.zero_add] at this
  · rintro e w' ⟨rfl, v', ho, hm', hf⟩
    have hs := hma.size
    have hs' := hm'.size
    refine ⟨rfl, v', ho, (h.row.mod hma (by simp)).mod hm' h.notin, h.ne, hf.ne (by have := h.lt; omega) h.nev, ?_, h.ob0, ?_, by have := h.lt; omega⟩
    · refine (h.mod.trans_nil hma).trans hm' (fun x hx => .inr ?_)
      rcases List.mem_cons.1 hx with rfl | hx
      · exact h.ob0
      · exact h.v0 x (by simpa using hx)
    · exact h.v0.or hf (by have := h.mod.size; omega)

theorem EncSt.start {w wr w2 : World} {ob : Nat} {v : Value} {xs : List Int} {cs : List Value} (ho : Outv wr ob v xs) (hf : FreshN w.heap.size v) (hm : Mod [] w wr) (hm2 : Mod [] wr w2) (hr : Row w2 wr.heap.size 0 cs) (hob : w.heap.size ≤ ob) (hlt : wr.heap.size < w2.heap.size) :
    EncSt w ob wr.heap.size w2 v xs cs := by
  have h1 := lt_of_heap ho.blk
  exact ⟨⟨hm2.heap ho.blk (by simp), ho.bytes.mod0 hm2, ho.ne⟩, hr, by omega, fun e => by have := Own.lt ho.bytes _ e; omega, hm.trans_nil hm2, hob, hf, hlt⟩

def encTo (l : List Ck) (k : Nat) : List Int := intB l.length ++ ((l.take k).map ckB).flatten

theorem flat_len9 : ∀ q : List Int, ((q.map intB).flatten).length ≤ 9 * q.length := by
  intro q
  induction q with
  | nil => simp
  | cons a q ih => have := intB_len a; rw [List.map_cons, List.flatten_cons, List.length_append, List.length_cons]; omega

theorem refsB_len (r : List (Int × Int)) : (r.map refB).flatten.length ≤ 18 * r.length := by
  induction r with
  | nil => simp
  | cons a q ih =>
    have h1 := intB_len a.1
    have h2 := intB_len a.2
    have h3 : (refB a).length ≤ 18 := by unfold refB; rw [List.length_append]; omega
    rw [List.map_cons, List.flatten_cons, List.length_append, List.length_cons]
    omega

theorem posB_len (c : Ck) : (posB c).length ≤ 36 := by
  have h0 := intB_len 0
  have h1 := intB_len 1
  have h2 := intB_len c.pos.row
  have h3 := intB_len c.pos.group
  have h4 := intB_len c.pos.unit
  unfold posB
  split
  · omega
  · simp only [List.length_append]; omega

theorem ckB_len {c : Ck} (hd : c.dig.length = 16) (hr : c.refs.length ≤ 16) : (ckB c).length ≤ 400 := by
  have h1 := intB_len c.id
  have h2 := intB_len c.print
  have h3 := posB_len c
  have h4 := intB_len c.refs.length
  have h5 := refsB_len c.refs
  unfold ckB
  simp only [List.length_append]
  omega

theorem encTo_succ {l : List Ck} {k : Nat} {c : Ck} (h : l[k]? = some c) : encTo l (k + 1) = encTo l k ++ ckB c := by
  unfold encTo
  rw [take_snoc' h, List.map_append, List.flatten_append, List.append_assoc]
  simp

theorem encTo_len {l : List Ck} (hl : ∀ c ∈ l, CkOk c) (k : Nat) : (encTo l k).length ≤ 9 + 400 * k := by
  induction k with
  | zero => have := intB_len l.length; simp [encTo]; omega
  | succ k ih =>
    by_cases h : k < l.length
    · have hc := hl l[k] (List.getElem_mem h)
      rw [encTo_succ (List.getElem?_eq_getElem h), List.length_append]
      have := ckB_len hc.dig hc.len
      omega
    · have e : encTo l (k + 1) = encTo l k := by unfold encTo; rw [List.take_of_length_le (by omega), List.take_of_length_le (by omega)]
      rw [e]; omega


theorem encSt_append {w0 w w3 : World} {ob cb sn sc tn tc : Nat} {sa ta : Option Addr} {xs ns : List Int} {cs : List Value} (h : EncSt w0 ob cb w (.slice sa sn sc) xs cs)
    (ho : Own w3 5 1 (.slice ta tn tc) ((xs.map fun x => [Value.int .u8 x]) ++ (ns.map fun x => [Value.int .u8 x]))) (hm : Mod (Value.slice sa sn sc).ownBlock.toList w w3) (hf : FreshOr w (.slice sa sn sc) (.slice ta tn tc)) :
    EncSt w0 ob cb (w3.setCell ⟨ob, 0, none⟩ (.slice ta tn tc)) (.slice ta tn tc) (xs ++ ns) cs := by
  have hob : ob ∉ (Value.slice sa sn sc).ownBlock.toList := by simpa using fun e => h.out.ne e
  have hb3 := hm.heap h.out.blk hob
  have hne := hf.ne (lt_of_heap h.out.blk) h.out.ne
  have hm4 : Mod [ob] w3 (w3.setCell ⟨ob, 0, none⟩ (.slice ta tn tc)) := (Mod.refl _ _).setCell _ _ (by simp)
  have hm34 : Mod (ob :: (Value.slice sa sn sc).ownBlock.toList) w (w3.setCell ⟨ob, 0, none⟩ (.slice ta tn tc)) := (hm.mono (fun x hx => List.mem_cons_of_mem _ hx)).trans hm4 (by simp)
  have s1 := hm34.size
  refine ⟨⟨heap_setCell1 w3 ob _ _ _ hb3, ?_, hne⟩, h.row.mod hm34 h.notin, h.ne, hf.ne h.lt h.nev, ?_, h.ob0, h.v0.or hf h.mod.size, by have := h.lt; omega⟩
  · have := Own.mod hm4 ho (fun b hb => by simp; intro e; subst e; exact hne hb)
    show Own _ _ _ _ _
    rw [List.map_append]
    exact this
  · refine h.mod.trans hm34 (fun x hx => .inr ?_)
    rcases List.mem_cons.1 hx with rfl | hx
    · exact h.ob0
    · exact h.v0 x (by simpa using hx)

def EncRes (xs : List Int) (w : World) (e : Ending) (w' : World) : Prop := BytesPost xs w e w'

theorem posB_lost {c : Ck} (h : c.lost = true) : posB c = intB 1 := by simp [posB, h]
theorem posB_at {c : Ck} (h : c.lost = false) : posB c = intB 0 ++ (intB c.pos.row ++ (intB c.pos.group ++ intB c.pos.unit)) := by simp [posB, h]

theorem held_mem {r : List (Int × Int)} (h : Rising r) {x : Int × Int} (hx : x ∈ r) : heldL r x.1 = x.2 := by
  rcases part_refs h x.1 with ⟨_, h2, _⟩ | ⟨n, h1, h2, _⟩
  · exact absurd rfl (h2 x hx)
  · rw [h1]
    obtain ⟨i, hi, e1⟩ := List.getElem_of_mem hx
    obtain ⟨j, hj, e2⟩ := List.getElem_of_mem h2
    have e3 : i = j := by
      rcases Nat.lt_trichotomy i j with h3 | h3 | h3
      · have := List.pairwise_iff_getElem.1 h i j hi hj h3; rw [e1, e2] at this; simp at this
      · exact h3
      · have := List.pairwise_iff_getElem.1 h j i hj hi h3; rw [e1, e2] at this; simp at this
    subst e3
    rw [e1] at e2
    rw [e2]

theorem U3.ok_range {u : U3} (h : u.ok = true) : (0 ≤ u.row ∧ u.row < 4096) ∧ (0 ≤ u.group ∧ u.group < 64) ∧ (0 ≤ u.unit ∧ u.unit < 32) := by
  unfold U3.ok at h
  simp at h
  omega

set_option maxRecDepth 100000 in
set_option maxHeartbeats 4000000 in
theorem encode_any (w : World) (tb mb : Nat) (lv : Value) (l : List Ck) (h : Tab w tb mb lv l) (hr : ∀ c ∈ l, Rng c) :
    Calls Try.prog 38 #[.pointer (some ⟨tb, 0, none⟩)] w (BytesPost (encB l) w) := by
  obtain ⟨c0, _, hl, hinv, hs⟩ := h.open
  have htb := Go.block_lt_of_cell c0
  rcases hs with ⟨rfl, rfl⟩ | ⟨b, cap, rfl, hc, hb, hrow⟩
  · clear h hinv hr
    go_enter Try.func38, Try.ntmps38
    go_wp2_with (go_at_call 70; refine (wireInt_any 0 _ (by omega) (by omega)).mono ?_; rintro e w2 ⟨vb, rfl, hvb, hm2, hf2⟩; obtain ⟨sa, sn, sc, rfl⟩ := hvb.isSlice; have c02 := hm2.cell c0 (by simp); have ht2 : tb < w2.heap.size := Go.block_lt_of_cell c02)
    refine wp_loop_rounds 1 ?_
    rw [rounds_succ]
    go_wp2
    go_ret
    refine ⟨_, rfl, ?_, hm2.alloc _, hf2⟩
    have := hvb.mod0 ((Mod.refl [] w2).alloc (.cells #[.slice sa sn sc] 70))
    simpa [encB] using this
  · have HR := Lib.hid hrow
    have HRng := Lib.hid hr
    have HInv := Lib.hid hinv
    have hT : Tab w tb mb (.slice (some ⟨b, 0, none⟩) l.length cap) l := h
    have HT := Lib.hid hT
    clear hrow hr hinv h hT
    go_enter Try.func38, Try.ntmps38
    go_wp2_with (go_at_call 70; refine (wireInt_any l.length _ (by omega) (by omega)).mono ?_; rintro e w2 ⟨vb, rfl, hvb, hm2, hf2⟩; obtain ⟨sa, sn, sc, rfl⟩ := hvb.isSlice; have c02 := hm2.cell c0 (by simp); have ht2 : tb < w2.heap.size := Go.block_lt_of_cell c02)
    obtain ⟨ob, hob⟩ : ∃ ob, w2.heap.size = ob := ⟨_, rfl⟩
    obtain ⟨W, hW⟩ : ∃ W, w2.alloc (.cells #[.slice sa sn sc] 70) = W := ⟨_, rfl⟩
    have hmW : Mod [] w W := by rw [← hW]; exact hm2.alloc _
    have hout : Outv W ob (.slice sa sn sc) (encTo l 0) := by
      rw [← hW, ← hob]
      refine ⟨heap_alloc_at _ _, ?_, ?_⟩
      · have := hvb.mod0 ((Mod.refl [] w2).alloc (.cells #[.slice sa sn sc] 70))
        simpa [encTo] using this
      · intro e
        have := Own.lt hvb _ e
        omega
    have hobw : w.heap.size ≤ ob := by have := hm2.size; omega
    rw [hW, hob]
    have HOut := Lib.hid hout
    clear hW hob hvb hm2 c02 ht2 hout
    go_loopw [21] (fun s21 wr => ∃ k : Nat, k ≤ l.length ∧ s21 = .int .i64 k ∧ Hid (∃ v, Outv wr ob v (encTo l k) ∧ FreshN w.heap.size v) ∧ Mod [] w wr) (fun s21 _ => l.length - (intOf s21).toNat)
    case atStart => exact ⟨0, by omega, rfl, Lib.hid ⟨_, HOut.out, hf2⟩, hmW⟩
    case round =>
      obtain ⟨k, hk, rfl, HS, hm⟩ := hrel
      by_cases hlt : k < l.length
      · obtain ⟨c, hx⟩ : ∃ c, l[k]? = some c := ⟨_, List.getElem?_eq_getElem hlt⟩
        obtain ⟨rv, hrw, hrf, hd, hok⟩ := HR.out k c hx
        have hrng := HRng.out c (List.mem_of_getElem? hx)
        have hrw1 := hrw.mod hm (by simp)
        have hrf1 := hrf.one
        obtain ⟨v, hov, hfv⟩ := HS.out
        obtain ⟨sa, sn, sc, rfl⟩ := hov.bytes.isSlice
        have hel := encTo_len HInv.out.each k
        have HX := Lib.hid hx
        have HRF1 := Lib.hid hrf1
        have HRF := Lib.hid hrf
        have HD := Lib.hid hd
        have HOk := Lib.hid hok
        have HOv := Lib.hid hov
        have HFv := Lib.hid hfv
        have HEl := Lib.hid hel
        clear hx hrw hrf hrf1 hd hok hov hfv hel
        have hrl := HOk.out.len
        have hid1 := HOk.out.id1
        have hid2 := HOk.out.id2
        have hp0 := hrng.print.1
        have hp1 := hrng.print.2
        have b1 := intB_len c.id
        have b2 := intB_len c.print
        have b3 := intB_len 1
        have b4 := intB_len 0
        have b5 := intB_len c.pos.row
        have b6 := intB_len c.pos.group
        have b7 := intB_len c.pos.unit
        have b8 := intB_len c.refs.length
        have hel := HEl.out
        obtain ⟨a', cap', rfl⟩ := Refs.sliceLen HRF.out
        generalize hrv : (Value.slice a' c.refs.length cap') = rv at *
        have HRV := Lib.hid hrv
        clear hrv
        go_wp2_with (first | (refine wpList_load_at rfl 45 (.tmp 23) rfl _ Try.underlying45 rfl 23 info45 b (k * 23) (c.cells rv) rfl hrw1 (by rw [Ck.cells_len, HD.out]) ?_) | (refine wpList_store_at rfl 45 (.tmp 6) (.tmp 24) rfl 23 info45 wr.heap.size 0 45 zeroCells (c.cells rv) rfl rfl (heap_alloc_at _ _) (by rw [Ck.cells_len, HD.out]) (oneCell_ck HRF1.out) (by simp [zeroCells, Ck.cells_len, HD.out]) ?_; intro w2 hhw2 hsw2; have hmw2 := ((Mod.refl [] wr).alloc (.cells zeroCells.toArray 45)).trans hsw2 (by simp); rw [splice_all _ _ (by simp [zeroCells, Ck.cells_len, HD.out])] at hhw2; have roww2 := Row.of_heap hhw2; have HHw2 := Lib.hid hhw2; clear hhw2; have d0 : w2.cell? ⟨wr.heap.size, 0, none⟩ = some (.int .i64 c.id) := roww2 0 _ rfl) | fail)
        have e0 : EncSt w ob wr.heap.size w2 (.slice sa sn sc) (encTo l k) (c.cells rv) := EncSt.start HOv.out HFv.out hm hmw2 roww2 hobw (lt_of_heap HHw2.out)
        with_reducible refine (put_enc e0 [c.id] (by intro x hx; simp at hx; subst hx; omega) (by simp) (by omega) #[.int .i64 c.id] rfl 1 1 rfl _ (by first | rfl | simp)).mono ?_
        rintro e w3 ⟨rfl, v3, e1⟩
        obtain ⟨sa3, sn3, sc3, rfl⟩ := e1.out.bytes.isSlice
        have g0 : w3.cell? ⟨ob, 0, none⟩ = some (.slice sa3 sn3 sc3) := by rw [cell_of_row _ _ _ _ _ _ e1.out.blk]; rfl
        have hdl : (c.dig.map fun x => [Value.int .u8 x]).length = 16 := by simp [HD.out]
        have hxl := encTo_len HInv.out.each k
        have hsrc : Src (w3.drew) 1 (.slice (some ⟨wr.heap.size, 1, none⟩) 16 16) (c.dig.map fun x => [Value.int .u8 x]) := by
          refine ⟨by simp, .inr ⟨wr.heap.size, 1, 16, by rw [hdl], ?_⟩⟩
          have hf : (c.dig.map fun x => [Value.int .u8 x]).flatten = c.dig.map (Value.int .u8) := by
            generalize c.dig = q
            induction q with
            | nil => rfl
            | cons a q ih => simp only [List.map_cons, List.flatten_cons, ih]; rfl
          rw [hf]
          exact Row.mod ((Mod.refl [] w3).drew) (Ck.digRow e1.row) (by simp)
        have hA : ((encTo l k ++ ([c.id].map intB).flatten).map fun x => [Value.int .u8 x]).length + (c.dig.map fun x => [Value.int .u8 x]).length ≤ 100000000 := by
          rw [hdl, List.length_map, List.length_append]
          simp only [List.map_cons, List.map_nil, List.flatten_cons, List.flatten_nil, List.append_nil]
          omega
        have HA := Lib.hid hA
        have e1d : EncSt w ob wr.heap.size w3.drew (.slice sa3 sn3 sc3) (encTo l k ++ ([c.id].map intB).flatten) (c.cells rv) := e1.same ((Mod.refl [] w3).drew)
        clear hA
        have HSrc := Lib.hid hsrc
        clear hdl hsrc
        go_wp2_with fail
        go_still_tail 3, (by kernel_rfl)
        go_wp2_with (at_builtin; go_must (refine wpList_append_Own sty_byte rfl (.tmp 30) (.tmp 32) rfl (.slice sa3 sn3 sc3) (.slice (some ⟨wr.heap.size, 1, none⟩) 16 16) rfl rfl _ _ (Bytes.mod0 ((Mod.refl [] w3).drew) e1.out.bytes) HSrc.out (oneCell_bytes _) (by have := HA.out; simp only [maxLen]; omega) (by have := HA.out; omega) ?_); intro v' w4 hown4 hm4 hfr4; obtain ⟨ta, tn, tc, rfl⟩ := Own.isSlice hown4; have hb4 := hm4.heap (((Mod.refl [] w3).drew).heap e1.out.blk (by simp)) (by simpa using fun e => e1.out.ne e); have fz4 := free_of_one hb4; have ct4 : w4.cell? ⟨ob, 0, none⟩ = some (.slice sa3 sn3 sc3) := (by rw [cell_of_row _ _ _ _ _ _ hb4]; rfl); have HB4 := Lib.hid hb4; clear hb4; have e2 := encSt_append e1d hown4 hm4 hfr4; have q17 : (w4.setCell ⟨ob, 0, none⟩ (.slice ta tn tc)).cell? ⟨wr.heap.size, 17, none⟩ = some (.int .u32 c.print) := e2.row 17 _ (Ck.c17 HD.out rv))
        obtain ⟨X2, hX2⟩ : ∃ X2, X2 = encTo l k ++ ([c.id].map intB).flatten ++ c.dig := ⟨_, rfl⟩
        have hX2l : X2.length ≤ 100000000 := by
          have := HA.out
          rw [List.length_map, List.length_map] at this
          rw [hX2, List.length_append]; exact this
        rw [← hX2] at e2
        with_reducible refine (put_enc e2 [c.print] (by intro x hx; simp at hx; subst hx; omega) (by simp) (by omega) #[.int .i64 c.print] rfl 1 1 rfl _ (by first | rfl | simp)).mono ?_
        rintro e w5 ⟨rfl, v5, e3⟩
        have q21 : w5.cell? ⟨wr.heap.size, 21, none⟩ = some (.bool c.lost) := e3.row 21 _ (Ck.c21 HD.out rv)
        have HX2 := Lib.hid hX2
        clear hX2 q17 g0 fz4 ct4
        obtain ⟨X3, hX3⟩ : ∃ X3, X3 = X2 ++ ([c.print].map intB).flatten := ⟨_, rfl⟩
        have hX3l : X3.length ≤ 100000009 := by
          rw [hX3, List.length_append]
          simp only [List.map_cons, List.map_nil, List.flatten_cons, List.flatten_nil, List.append_nil]
          omega
        rw [← hX3] at e3
        have HX3 := Lib.hid hX3
        clear hX3
        cases hlo : c.lost with
        | true =>
          rw [hlo] at q21
          have HLo := Lib.hid hlo
          clear hlo
          go_wp2_with fail
          with_reducible refine (put_enc e3 [1] (by simp) (by simp) (by omega) #[.int .i64 1] rfl 1 1 rfl _ (by first | rfl | simp)).mono ?_
          rintro e w6 ⟨rfl, v6, e4'⟩
          have hpb : ([1].map intB).flatten = posB c := by simp [posB_lost HLo.out]
          rw [hpb] at e4'
          clear hpb
          obtain ⟨X4, hX4⟩ : ∃ X4, X4 = X3 ++ posB c := ⟨_, rfl⟩
          have hX4l : X4.length ≤ 100000100 := by
            have := posB_len c
            rw [hX4, List.length_append]
            omega
          have e4 : EncSt w ob wr.heap.size w6 v6 X4 (c.cells rv) := by rw [hX4]; exact e4'
          have HX4 := Lib.hid hX4
          clear hX4 e4'
          have q22 : w6.cell? ⟨wr.heap.size, 22, none⟩ = some (.slice a' c.refs.length cap') := by rw [HRV.out]; exact e4.row 22 _ (Ck.c22 HD.out rv)
          go_wp2_with fail
          with_reducible refine (put_enc e4 [(c.refs.length : Int)] (by intro x hx; simp at hx; omega) (by simp) (by omega) #[.int .i64 c.refs.length] rfl 1 1 rfl _ (by first | rfl | simp)).mono ?_
          rintro e w7 ⟨rfl, v7, e5'⟩
          obtain ⟨X5, hX5⟩ : ∃ X5, X5 = X4 ++ ([(c.refs.length : Int)].map intB).flatten := ⟨_, rfl⟩
          have hX5l : X5.length ≤ 100000109 := by
            rw [hX5, List.length_append]
            simp only [List.map_cons, List.map_nil, List.flatten_cons, List.flatten_nil, List.append_nil]
            omega
          have e5 : EncSt w ob wr.heap.size w7 v7 X5 (c.cells rv) := by rw [hX5]; exact e5'
          have HX5 := Lib.hid hX5
          clear hX5 e5'
          have r22 : w7.cell? ⟨wr.heap.size, 22, none⟩ = some (.slice a' c.refs.length cap') := by rw [HRV.out]; exact e5.row 22 _ (Ck.c22 HD.out rv)
          have hrfs : Refs w (.slice a' c.refs.length cap') c.refs := by rw [HRV.out]; exact HRF.out
          have HRfs := Lib.hid hrfs
          clear hrfs
          go_wp2_with fail
          obtain ⟨wo, hwo⟩ : ∃ wo : World, wo = wr := ⟨_, rfl⟩
          obtain ⟨cb, hcb⟩ : ∃ cb, wr.heap.size = cb := ⟨_, rfl⟩
          rw [hcb]
          rw [hcb] at e5
          go_loopw [68] (fun s68 wq => ∃ q : Nat, q ≤ c.refs.length ∧ s68 = .int .i64 q ∧ Hid (∃ v, EncSt w ob cb wq v (X5 ++ ((c.refs.take q).map refB).flatten) (c.cells rv))) (fun s68 _ => c.refs.length - (intOf s68).toNat)
          case atStart => exact ⟨0, by omega, rfl, Lib.hid ⟨v7, by simpa using e5⟩⟩
          case round =>
            obtain ⟨q, hq, rfl, HQ⟩ := hrel
            obtain ⟨vq, eq⟩ := HQ.out
            by_cases hlq : q < c.refs.length
            · obtain ⟨x, hxq⟩ : ∃ x, c.refs[q]? = some x := ⟨_, List.getElem?_eq_getElem hlq⟩
              obtain ⟨br, rfl, hrr⟩ := HRfs.out.cell hxq
              have hrr1 := hrr.mod eq.mod (by simp)
              have hxr := HOk.out.ref1 x (List.mem_of_getElem? hxq)
              have hxt : x.2 ≤ 2147483647 := by
                have h1 := held_bounds (fun y hy => (HOk.out.ref1 y hy).2.2) x.1
                have h2 := HOk.out.tot
                have h3 := held_mem HOk.out.refs (List.mem_of_getElem? hxq)
                unfold most at h2
                omega
              have hx0 := hxr.1
              have hx1 := hxr.2.1
              have hx2 := hxr.2.2
              have htk : (c.refs.take (q + 1)).map refB = (c.refs.take q).map refB ++ [refB x] := by rw [take_snoc' hxq, List.map_append]; rfl
              have hXq : (X5 ++ ((c.refs.take q).map refB).flatten).length ≤ 100001000 := by
                have h1 := refsB_len (c.refs.take q)
                have h2 := List.length_take_le q c.refs
                rw [List.length_append]
                omega
              have HXq := Lib.hid hXq
              have HTk := Lib.hid htk
              clear hxq hrr htk hXq hxr
              go_wp2_with (first | (refine wpList_load_at rfl 113 (.tmp 70) rfl _ Try.underlying113 rfl 2 infoRef br (q * 2) [.int .i64 x.1, .int .i64 x.2] rfl hrr1 rfl ?_) | fail)
              with_reducible refine (put_enc (eq.same ((Mod.refl [] _).alloc _)) [x.1, x.2] (by intro y hy; simp at hy; omega) (by simp) (by have := HXq.out; omega) #[.int .i64 x.1, .int .i64 x.2] rfl 2 2 rfl _ (by first | rfl | simp)).mono ?_
              rintro e w8 ⟨rfl, v8, e6⟩
              go_wp2_with fail
              go_roundw
              case rel =>
                refine ⟨q + 1, by omega, by go_num, Lib.hid ⟨v8, ?_⟩⟩
                rw [HTk.out, List.flatten_append, ← List.append_assoc]
                simpa [refB] using e6
              case measure => simp [intOf]; omega
            · obtain rfl : q = c.refs.length := by omega
              go_wp2
              go_roundw
              case rel =>
                refine ⟨k + 1, by omega, by go_num, Lib.hid ⟨vq, ?_, eq.v0⟩, eq.mod⟩
                have h1 := eq.out
                rw [List.take_of_length_le (Nat.le_refl _)] at h1
                have h2 : X5 ++ (c.refs.map refB).flatten = encTo l (k + 1) := by
                  rw [encTo_succ HX.out, HX5.out, HX4.out, HX3.out, HX2.out]
                  simp [ckB]
                rw [← h2]
                exact h1
              case measure => simp [intOf]; omega
        | false =>
          rw [hlo] at q21
          have hu := U3.ok_range (HOk.out.pos hlo)
          have q18 : w5.cell? ⟨wr.heap.size, 18, none⟩ = some (.int .i64 c.pos.row) := e3.row 18 _ (Ck.c18 HD.out rv)
          have q19 : w5.cell? ⟨wr.heap.size, 19, none⟩ = some (.int .i64 c.pos.group) := e3.row 19 _ (Ck.c19 HD.out rv)
          have q20 : w5.cell? ⟨wr.heap.size, 20, none⟩ = some (.int .i64 c.pos.unit) := e3.row 20 _ (Ck.c20 HD.out rv)
          have HLo := Lib.hid hlo
          clear hlo
          go_wp2_with fail
          with_reducible refine (put_enc e3 [0, c.pos.row, c.pos.group, c.pos.unit] (by intro y hy; simp at hy; omega) (by simp) (by omega) #[.int .i64 0, .int .i64 c.pos.row, .int .i64 c.pos.group, .int .i64 c.pos.unit] rfl 4 4 rfl _ (by first | rfl | simp)).mono ?_
          rintro e w6 ⟨rfl, v6, e4'⟩
          have hpb : ([0, c.pos.row, c.pos.group, c.pos.unit].map intB).flatten = posB c := by simp [posB_at HLo.out]
          rw [hpb] at e4'
          clear hpb
          obtain ⟨X4, hX4⟩ : ∃ X4, X4 = X3 ++ posB c := ⟨_, rfl⟩
          have hX4l : X4.length ≤ 100000100 := by
            have := posB_len c
            rw [hX4, List.length_append]
            omega
          have e4 : EncSt w ob wr.heap.size w6 v6 X4 (c.cells rv) := by rw [hX4]; exact e4'
          have HX4 := Lib.hid hX4
          clear hX4 e4'
          have q22 : w6.cell? ⟨wr.heap.size, 22, none⟩ = some (.slice a' c.refs.length cap') := by rw [HRV.out]; exact e4.row 22 _ (Ck.c22 HD.out rv)
          go_wp2_with fail
          with_reducible refine (put_enc e4 [(c.refs.length : Int)] (by intro x hx; simp at hx; omega) (by simp) (by omega) #[.int .i64 c.refs.length] rfl 1 1 rfl _ (by first | rfl | simp)).mono ?_
          rintro e w7 ⟨rfl, v7, e5'⟩
          obtain ⟨X5, hX5⟩ : ∃ X5, X5 = X4 ++ ([(c.refs.length : Int)].map intB).flatten := ⟨_, rfl⟩
          have hX5l : X5.length ≤ 100000109 := by
            rw [hX5, List.length_append]
            simp only [List.map_cons, List.map_nil, List.flatten_cons, List.flatten_nil, List.append_nil]
            omega
          have e5 : EncSt w ob wr.heap.size w7 v7 X5 (c.cells rv) := by rw [hX5]; exact e5'
          have HX5 := Lib.hid hX5
          clear hX5 e5'
          have r22 : w7.cell? ⟨wr.heap.size, 22, none⟩ = some (.slice a' c.refs.length cap') := by rw [HRV.out]; exact e5.row 22 _ (Ck.c22 HD.out rv)
          have hrfs : Refs w (.slice a' c.refs.length cap') c.refs := by rw [HRV.out]; exact HRF.out
          have HRfs := Lib.hid hrfs
          clear hrfs
          go_wp2_with fail
          obtain ⟨wo, hwo⟩ : ∃ wo : World, wo = wr := ⟨_, rfl⟩
          obtain ⟨cb, hcb⟩ : ∃ cb, wr.heap.size = cb := ⟨_, rfl⟩
          rw [hcb]
          rw [hcb] at e5
          go_loopw [68] (fun s68 wq => ∃ q : Nat, q ≤ c.refs.length ∧ s68 = .int .i64 q ∧ Hid (∃ v, EncSt w ob cb wq v (X5 ++ ((c.refs.take q).map refB).flatten) (c.cells rv))) (fun s68 _ => c.refs.length - (intOf s68).toNat)
          case atStart => exact ⟨0, by omega, rfl, Lib.hid ⟨v7, by simpa using e5⟩⟩
          case round =>
            obtain ⟨q, hq, rfl, HQ⟩ := hrel
            obtain ⟨vq, eq⟩ := HQ.out
            by_cases hlq : q < c.refs.length
            · obtain ⟨x, hxq⟩ : ∃ x, c.refs[q]? = some x := ⟨_, List.getElem?_eq_getElem hlq⟩
              obtain ⟨br, rfl, hrr⟩ := HRfs.out.cell hxq
              have hrr1 := hrr.mod eq.mod (by simp)
              have hxr := HOk.out.ref1 x (List.mem_of_getElem? hxq)
              have hxt : x.2 ≤ 2147483647 := by
                have h1 := held_bounds (fun y hy => (HOk.out.ref1 y hy).2.2) x.1
                have h2 := HOk.out.tot
                have h3 := held_mem HOk.out.refs (List.mem_of_getElem? hxq)
                unfold most at h2
                omega
              have hx0 := hxr.1
              have hx1 := hxr.2.1
              have hx2 := hxr.2.2
              have htk : (c.refs.take (q + 1)).map refB = (c.refs.take q).map refB ++ [refB x] := by rw [take_snoc' hxq, List.map_append]; rfl
              have hXq : (X5 ++ ((c.refs.take q).map refB).flatten).length ≤ 100001000 := by
                have h1 := refsB_len (c.refs.take q)
                have h2 := List.length_take_le q c.refs
                rw [List.length_append]
                omega
              have HXq := Lib.hid hXq
              have HTk := Lib.hid htk
              clear hxq hrr htk hXq hxr
              go_wp2_with (first | (refine wpList_load_at rfl 113 (.tmp 70) rfl _ Try.underlying113 rfl 2 infoRef br (q * 2) [.int .i64 x.1, .int .i64 x.2] rfl hrr1 rfl ?_) | fail)
              with_reducible refine (put_enc (eq.same ((Mod.refl [] _).alloc _)) [x.1, x.2] (by intro y hy; simp at hy; omega) (by simp) (by have := HXq.out; omega) #[.int .i64 x.1, .int .i64 x.2] rfl 2 2 rfl _ (by first | rfl | simp)).mono ?_
              rintro e w8 ⟨rfl, v8, e6⟩
              go_wp2_with fail
              go_roundw
              case rel =>
                refine ⟨q + 1, by omega, by go_num, Lib.hid ⟨v8, ?_⟩⟩
                rw [HTk.out, List.flatten_append, ← List.append_assoc]
                simpa [refB] using e6
              case measure => simp [intOf]; omega
            · obtain rfl : q = c.refs.length := by omega
              go_wp2
              go_roundw
              case rel =>
                refine ⟨k + 1, by omega, by go_num, Lib.hid ⟨vq, ?_, eq.v0⟩, eq.mod⟩
                have h1 := eq.out
                rw [List.take_of_length_le (Nat.le_refl _)] at h1
                have h2 : X5 ++ (c.refs.map refB).flatten = encTo l (k + 1) := by
                  rw [encTo_succ HX.out, HX5.out, HX4.out, HX3.out, HX2.out]
                  simp [ckB]
                rw [← h2]
                exact h1
              case measure => simp [intOf]; omega
      · obtain rfl : k = l.length := by omega
        obtain ⟨v, hov, hfv⟩ := HS.out
        obtain ⟨sa, sn, sc, rfl⟩ := hov.bytes.isSlice
        have g0 : wr.cell? ⟨ob, 0, none⟩ = some (.slice sa sn sc) := by rw [cell_of_row _ _ _ _ _ _ hov.blk]; rfl
        have HOv := Lib.hid hov
        clear hov
        go_wp2
        go_ret
        refine ⟨_, rfl, ?_, hm, hfv⟩
        have h1 := HOv.out.bytes
        have h2 : encTo l l.length = encB l := by unfold encTo encB; rw [List.take_of_length_le (Nat.le_refl _)]
        rw [← h2]
        exact h1

end Go.Proofs.Ytknkifanpppglaa

/- A table that a law has made; the law's sanity. -/
namespace Go.Proofs.Ytknkifanpppglaa
open Go.RowKit

/-- a table of the call's own; the blocks K are none of it -/
structure OT (w0 w : World) (tb mb : Nat) (lv : Value) (l : List Ck) (K : List Nat) : Prop where
  tab : Tab w tb mb lv l
  mod : Mod [] w0 w
  tb0 : w0.heap.size ≤ tb
  mb0 : w0.heap.size ≤ mb
  lv0 : FreshN w0.heap.size lv
  keep : ∀ b ∈ K, b ∉ foot tb mb lv ∧ b < w.heap.size

/-- the blocks K hold what they held -/
def Still (K : List Nat) (w w' : World) : Prop := ∀ b ∈ K, w'.heap[b]? = w.heap[b]?

theorem Still.row {K : List Nat} {w w' : World} (h : Still K w w') {b off : Nat} {cs : List Value} (hr : Row w b off cs) (hb : b ∈ K) : Row w' b off cs := by
  intro j u hu
  rw [World.cell?_of_block (w := w) (h b hb)]
  exact hr j u hu
theorem Still.heap {K : List Nat} {w w' : World} (h : Still K w w') {b : Nat} {o : Obj} (hr : w.heap[b]? = some o) (hb : b ∈ K) : w'.heap[b]? = some o := by
  rw [h b hb]; exact hr
theorem Still.own {K : List Nat} {w w' : World} (h : Still K w w') {E sz : Nat} {v : Value} {es : List (List Value)} (ho : Own w E sz v es) (hb : ∀ b, v.ownBlock = some b → b ∈ K) : Own w' E sz v es := by
  refine ⟨ho.1, ho.2.1, ?_⟩
  rcases ho.2.2 with h1 | ⟨g, cap, cur, h1, h2, h3, h4⟩
  · exact .inl h1
  · exact .inr ⟨g, cap, cur, h1, h2, h.heap h3 (hb g (by rw [h1]; rfl)), h4⟩

theorem OT.same {w0 w w' : World} {tb mb : Nat} {lv : Value} {l : List Ck} {K : List Nat} (h : OT w0 w tb mb lv l K) (hm : Mod [] w w') : OT w0 w' tb mb lv l K ∧ Still K w w' :=
  ⟨⟨h.tab.mod0 hm, h.mod.trans_nil hm, h.tb0, h.mb0, h.lv0, fun b hb => ⟨(h.keep b hb).1, Nat.lt_of_lt_of_le (h.keep b hb).2 hm.size⟩⟩, fun b hb => hm.block b (h.keep b hb).2 (by simp)⟩

theorem OT.op {w0 w w' : World} {tb mb : Nat} {lv : Value} {l l' : List Ck} {K : List Nat} {v : Value} {e : Ending} (h : OT w0 w tb mb lv l K) (hp : TabPost tb mb lv l' v w e w') :
    e = .returned v ∧ (∃ lv', OT w0 w' tb mb lv' l' K) ∧ Still K w w' ∧ (∀ rv r, Refs w rv r → Refs w' rv r) ∧ w.heap.size ≤ w'.heap.size := by
  obtain ⟨lv', h1, h2, h3, h4⟩ := hp
  have hs := h3.size
  refine ⟨h1, ⟨lv', h2, ?_, h.tb0, h.mb0, ?_, fun b hb => ⟨?_, Nat.lt_of_lt_of_le (h.keep b hb).2 hs⟩⟩, fun b hb => h3.block b (h.keep b hb).2 (h.keep b hb).1, fun rv r hr => hr.mod h3 h.tab.parts.2.2.1, hs⟩
  · refine h.mod.trans h3 (fun x hx => .inr ?_)
    simp only [foot, List.mem_cons, Option.mem_toList] at hx
    rcases hx with rfl | rfl | hx
    · exact h.tb0
    · exact h.mb0
    · exact h.lv0 x hx
  · exact h.lv0.or h4 (by have := h.mod.size; omega)
  · have hk := (h.keep b hb).1
    have hl := (h.keep b hb).2
    simp only [foot, List.mem_cons, Option.mem_toList, not_or] at hk ⊢
    refine ⟨hk.1, hk.2.1, ?_⟩
    rcases h4 with h4 | ⟨g, h4, h5⟩
    · rw [h4]; exact hk.2.2
    · rw [h4]; intro e; cases e; omega

/-- one block more that stays -/
theorem OT.more {w0 w : World} {tb mb : Nat} {lv : Value} {l : List Ck} {K : List Nat} (h : OT w0 w tb mb lv l K) {b : Nat} (hb : b ∉ foot tb mb lv) (hl : b < w.heap.size) : OT w0 w tb mb lv l (b :: K) :=
  ⟨h.tab, h.mod, h.tb0, h.mb0, h.lv0, fun x hx => by
    rcases List.mem_cons.1 hx with rfl | hx
    · exact ⟨hb, hl⟩
    · exact h.keep x hx⟩

theorem OT.new {w w' : World} {e : Ending} (h : NewPost w e w') : ∃ tb mb, e = .returned (.pointer (some ⟨tb, 0, none⟩)) ∧ OT w w' tb mb nilV [] [] := by
  obtain ⟨tb, mb, h1, h2, h3, h4, h5⟩ := h
  exact ⟨tb, mb, h1, h2, h3, h4, h5, FreshN.nil _, fun b hb => by simp at hb⟩

theorem Still.trans {K : List Nat} {a b c : World} (h : Still K a b) (h2 : Still K b c) : Still K a c := fun x hx => (h2 x hx).trans (h x hx)

def u0 : U3 := ⟨2, 1, 3⟩
def ckS : Ck := ⟨1, digOf 9, 7, u0, false, [(1, 1)]⟩
def ckT : Ck := ⟨1, digOf 9, 7, u0, false, [(0, 2), (1, 1)]⟩
def ckL : Ck := ⟨1, digOf 9, 7, zeroU, true, [(0, 2), (1, 1)]⟩
def ckM : Ck := ⟨1, digOf 9, 7, zeroU, true, [(0, 2)]⟩
theorem s_add : addL [] (digOf 9) 7 u0 1 = ([ckS], 1, 0) := by decide
theorem s_again : addL [ckS] (digOf 8) 7 u0 1 = ([ckS], 0, 20) := by decide
theorem s_refer : referL [ckS] 1 0 2 = ([ckT], 0) := by decide
theorem s_get : getC [ckT] 1 = some ckT := by decide
theorem s_at : atU [ckT] u0 = some 1 := by decide
theorem s_live : liveL [ckT] 2 1 = [1] := by decide
theorem s_count : countL [ckT] 0 = 2 := by decide
theorem s_lose : loseL [ckT] 1 = ([ckL], 0) := by decide
theorem s_lost : lostL [ckL] (digOf 9) = [1] := by decide
theorem s_un1 : unreferL [ckL] 1 1 1 = ([ckM], false, 0) := by decide
theorem s_un2 : unreferL [ckM] 1 0 2 = ([], true, 0) := by decide
theorem s_enc : encB [] = [128] := by decide

end Go.Proofs.Ytknkifanpppglaa

/- The law's sanity returns true. -/
namespace Go.Proofs.Ytknkifanpppglaa
open Go.RowKit

theorem OT.fresh {w0 w : World} {tb mb : Nat} {lv : Value} {l : List Ck} {K : List Nat} (h : OT w0 w tb mb lv l K) {x : Nat} (hx : w.heap.size ≤ x) : x ∉ foot tb mb lv := h.tab.fresh hx

/-- a step that makes memory, and a block that it made -/
theorem OT.step {w0 w w' : World} {tb mb : Nat} {lv : Value} {l : List Ck} {K : List Nat} (h : OT w0 w tb mb lv l K) (hm : Mod [] w w') {b : Nat} (hb : w.heap.size ≤ b) (hl : b < w'.heap.size) : OT w0 w' tb mb lv l (b :: K) :=
  (h.same hm).1.more (h.fresh hb) hl

theorem OT.own {w0 w w' : World} {tb mb : Nat} {lv : Value} {l : List Ck} {K : List Nat} (h : OT w0 w tb mb lv l K) (hm : Mod [] w w') {E sz : Nat} {v : Value} {es : List (List Value)} (ho : Own w' E sz v es) (hf : ∀ g, v.ownBlock = some g → w.heap.size ≤ g) :
    OT w0 w' tb mb lv l (v.ownBlock.toList ++ K) := by
  cases hv : v.ownBlock with
  | none => exact (h.same hm).1
  | some g => exact h.step hm (hf g hv) (Own.lt ho g hv)

structure U0 (ub : Nat) (w : World) : Prop where
  a : w.cell? ⟨ub, 0, none⟩ = some (.int .i64 2)
  b : w.cell? ⟨ub, 1, none⟩ = some (.int .i64 1)
  c : w.cell? ⟨ub, 2, none⟩ = some (.int .i64 3)
theorem U0.mod {ub : Nat} {w w' : World} (h : U0 ub w) (hm : Mod [] w w') : U0 ub w' := ⟨hm.cell h.a (by simp), hm.cell h.b (by simp), hm.cell h.c (by simp)⟩

structure Blk1 (w : World) (b : Nat) (o : Obj) : Prop where
  at_ : w.heap[b]? = some o
theorem Blk1.heapOf {w w' : World} {b : Nat} {o : Obj} (h : Blk1 w b o) (hm : Mod [] w w') : Blk1 w' b o := ⟨hm.heap h.1 (by simp)⟩
theorem U0.mod1 {ub zb : Nat} {w w' : World} (h : U0 ub w) (hz : Blk1 w zb (.cells zeroCells.toArray 45 (0, 0))) (hm : Mod [zb] w w') : U0 ub w' := by
  have hne : ub ≠ zb := by
    intro e
    subst e
    have := h.a
    rw [cell_of_row _ _ _ _ _ _ hz.1] at this
    simp [zeroCells] at this
  have hn : ub ∉ [zb] := by simpa using hne
  exact ⟨hm.cell h.a hn, hm.cell h.b hn, hm.cell h.c hn⟩

theorem wp_store_at {P : Program} {o : Oper} {a : Act} {w : World} {K : Act → World → Prop} {Q : Exit → Act → World → Prop} (ty : TypeId) (x v : Operand) (ho : o.op = .store ty x v)
    (n : Nat) (hi : (P.info? ty).map (·.size) = some n) (b off : Nat) (t : TypeId) (cur cs : List Value) (hx : a.eval x = .pointer (some ⟨b, off, none⟩)) (hv : a.eval v = .agg cs.toArray)
    (hb : w.heap[b]? = some (.cells cur.toArray t (0, 0))) (hn : cs.length = n) (h1 : ∀ u ∈ cs, u.oneCell' = true) (hf : off + cs.length ≤ cur.length)
    (h : ∀ w', w'.heap[b]? = some (.cells (splice cur off cs).toArray t (0, 0)) → Mod [b] w w' → K (a.put o.dst undef) w') : o.wp P a w K Q := by
  unfold Oper.wp execOp
  simp only [ho, hx, hv, Instr.storeAt, Instr.sureAddr, Sem.run_bind, Sem.run_pure, Result.andThen_ok, run_storeVar_at w b off ty t cur cs hb (by rw [hi, hn]) h1 hf]
  exact h _ (setRow_heap w b _ _ t _ hb) ((Mod.refl _ _).setRow _ _ (by simp))

theorem yieldsIf_build_ck {ops : Array Oper} {S : World → Prop} {o : Oper} {a : Act} (hw : Region.wanted o (yielded ops a.tmps) = true) (x0 x1 x2 x3 x5 : Operand)
    (hop : o.op = .build 45 #[(0, x0), (1, x1), (2, x2), (3, x3), (5, x5)]) (c : Ck) (ad : Option Addr) (n m : Nat) (h0 : a.eval x0 = .int .i64 c.id) (h1 : a.eval x1 = digV c.dig) (h2 : a.eval x2 = .int .u32 c.print)
    (h3 : a.eval x3 = .agg #[.int .i64 c.pos.row, .int .i64 c.pos.group, .int .i64 c.pos.unit]) (h5 : a.eval x5 = .slice ad n m) (hd : c.dig.length = 16) (hl : c.lost = false) :
    YieldsIf Try.prog ops S o (.agg (c.cells (.slice ad n m)).toArray) a :=
  .inl ⟨hw, fun w _ => by
    have hr := run_build_ck w c ad n m hd hl
    unfold execOp
    simp only [hop, Sem.run_bind, Sem.run_pure, Result.andThen_ok, List.map_toArray, List.map_cons, List.map_nil, h0, h1, h2, h3, h5, hr]⟩

/-- the chunk that the law wants -/
def Want (w0 : World) (nb : Nat) (w : World) : Prop := ∃ rv, w.heap[nb]? = some (.cells (ckT.cells rv).toArray 45 (0, 0)) ∧ Refs w rv ckT.refs ∧ Mod [] w0 w

theorem fin16 {w0 W w18 : World} {rb zb : Nat} (hM : Mod [] w0 W) (hR : Blk1 W rb (.cells #[.int .i64 0, .int .i64 2, .int .i64 1, .int .i64 1] 113 (0, 0))) (hZ : Blk1 W zb (.cells zeroCells.toArray 45 (0, 0)))
    (hz0 : w0.heap.size ≤ zb) (hh : w18.heap[zb]? = some (.cells (splice zeroCells 0 (ckT.cells (.slice (some ⟨rb, 0, none⟩) 2 2))).toArray 45 (0, 0))) (hm : Mod [zb] W w18) : Want w0 zb w18 := by
  have hne : rb ≠ zb := by
    intro e
    subst e
    have h1 := hR.1
    rw [hZ.1] at h1
    cases h1
  refine ⟨.slice (some ⟨rb, 0, none⟩) 2 2, by rw [splice_all _ _ (by rw [Ck.cells_len]; rfl)] at hh; exact hh, ?_, hM.trans hm (by simpa using hz0)⟩
  have hb := hm.heap hR.1 (by simpa using hne)
  exact ⟨by simp [refCells, ckT], by simp [refCells, ckT], .inr ⟨rb, 2, _, rfl, Nat.zero_le _, hb, by simp [ckT], by simp [maxLen], by simp, by simp [ckT, refCells]⟩⟩

set_option maxRecDepth 100000 in
set_option maxHeartbeats 4000000 in
theorem sanity_any (w : World) : Calls Try.prog 14 #[] w (BoolPost true w) := by
  go_enter Try.func14, Try.ntmps14
  go_wp2_with fail
  refine (new_any _).mono ?_
  rintro e w1 hnew
  obtain ⟨tb, mb, rfl, o1⟩ := OT.new hnew
  clear hnew
  go_wp2_with fail
  obtain ⟨w2, hw2⟩ : ∃ w2, w2 = w1.alloc (.cells #[.int .i64 2, .int .i64 1, .int .i64 3] 26) := ⟨_, rfl⟩
  have hm12 : Mod [] w1 w2 := by rw [hw2]; exact (Mod.refl _ _).alloc _
  have hur : Row w2 w1.heap.size 0 u0.cells := by rw [hw2]; exact Row.of_heap (heap_alloc_at w1 _)
  have o2 := o1.step hm12 (Nat.le_refl _) (by rw [hw2]; simp)
  obtain ⟨ub, hub⟩ : ∃ ub, w1.heap.size = ub := ⟨_, rfl⟩
  rw [← hw2, hub]
  rw [hub] at hur o2
  clear hw2 hub hm12 o1
  have c0 : w2.cell? ⟨ub, 0, none⟩ = some (.int .i64 2) := hur 0 _ rfl
  have c1 : w2.cell? ⟨ub, 1, none⟩ = some (.int .i64 1) := hur 1 _ rfl
  have c2 : w2.cell? ⟨ub, 2, none⟩ = some (.int .i64 3) := hur 2 _ rfl
  have hub2 : ub ∈ [ub] := by simp
  go_region_held3 (fun w' => w'.cell? ⟨ub, 0, none⟩ = some (.int .i64 2) ∧ w'.cell? ⟨ub, 1, none⟩ = some (.int .i64 1) ∧ w'.cell? ⟨ub, 2, none⟩ = some (.int .i64 3))
    (first | exact ⟨c0, c1, c2⟩ | exact ⟨hm3.cell c0 (by simp), hm3.cell c1 (by simp), hm3.cell c2 (by simp)⟩ | exact ⟨hr4 0 _ rfl, hr4 1 _ rfl, hr4 2 _ rfl⟩)
    (first | (go_at_call 25; refine (digest_any 9 _).mono ?_; rintro e w3 ⟨rfl, hm3⟩; have hr3 := hur.mod (((Mod.refl [] w2).drew).trans_nil hm3) (by simp)) | (go_at_call 51; refine (add_any w3 tb mb nilV [] (digOf 9) 7 u0 1 (by simp [digOf]) ((o2.same (((Mod.refl [] w2).drew).trans_nil hm3)).1.tab)).mono ?_; rintro e w4 hp4; rw [s_add] at hp4; obtain ⟨rfl, ⟨lv4, o4⟩, k4, f4, z4⟩ := (o2.same (((Mod.refl [] w2).drew).trans_nil hm3)).1.op hp4; have hr4 := k4.row hr3 hub2))
  go_wp2_with fail
  clear c0 c1 c2 hur hm3 k4 f4 z4 o2 hr3
  have c0 : w4.cell? ⟨ub, 0, none⟩ = some (.int .i64 2) := hr4 0 _ rfl
  have c1 : w4.cell? ⟨ub, 1, none⟩ = some (.int .i64 1) := hr4 1 _ rfl
  have c2 : w4.cell? ⟨ub, 2, none⟩ = some (.int .i64 3) := hr4 2 _ rfl
  go_region_held3 (fun w' => w'.cell? ⟨ub, 0, none⟩ = some (.int .i64 2) ∧ w'.cell? ⟨ub, 1, none⟩ = some (.int .i64 1) ∧ w'.cell? ⟨ub, 2, none⟩ = some (.int .i64 3))
    (first | exact ⟨c0, c1, c2⟩ | exact ⟨hm5.cell c0 (by simp), hm5.cell c1 (by simp), hm5.cell c2 (by simp)⟩ | exact ⟨hr6 0 _ rfl, hr6 1 _ rfl, hr6 2 _ rfl⟩)
    (first | (go_at_call 25; refine (digest_any 8 _).mono ?_; rintro e w5 ⟨rfl, hm5⟩; have hr5 := hr4.mod (((Mod.refl [] w4).drew).trans_nil hm5) (by simp)) | (go_at_call 51; refine (add_any w5 tb mb lv4 [ckS] (digOf 8) 7 u0 1 (by simp [digOf]) ((o4.same (((Mod.refl [] w4).drew).trans_nil hm5)).1.tab)).mono ?_; rintro e w6 hp6; rw [s_again] at hp6; obtain ⟨rfl, ⟨lv6, o6⟩, k6, f6, z6⟩ := (o4.same (((Mod.refl [] w4).drew).trans_nil hm5)).1.op hp6; have hr6 := k6.row hr5 hub2))
  go_wp2_with fail
  clear c0 c1 c2 hr4 hm5 k6 f6 z6 o4 hr5
  refine (refer_any _ tb mb lv6 [ckS] 1 0 2 o6.tab).mono ?_
  rintro e w7 hp7
  rw [s_refer] at hp7
  obtain ⟨rfl, ⟨lv7, o7⟩, k7, f7, z7⟩ := o6.op hp7
  have hr7 := k7.row hr6 hub2
  clear hp7 k7 f7 z7 o6 hr6
  go_wp2_with fail
  refine (get_any _ tb mb lv7 [ckT] 1 o7.tab).mono ?_
  rintro e w8 ⟨hm8, hg8⟩
  rw [s_get] at hg8
  obtain ⟨ck, rv, hck, hd, rfl, hrf8, hfr8⟩ : ∃ c rv, some ckT = some c ∧ c.dig.length = 16 ∧ e = .returned (.tuple #[.agg (c.cells rv).toArray, .bool true]) ∧ Refs w8 rv c.refs ∧ ∀ g, rv.ownBlock = some g → w7.heap.size ≤ g := by
    rcases hg8 with ⟨h, _⟩ | h
    · cases h
    · exact h
  cases hck
  have hr8 := hr7.mod hm8 (by simp)
  have o8 := (o7.same hm8).1
  have HRF8 := Lib.hid hrf8
  have HD := Lib.hid hd
  clear hg8 hr7 o7 hm8 hfr8 hrf8 hd
  go_wp2_with (first | (refine wpList_store_at rfl 45 (.tmp 8) (.tmp 45) rfl 23 info45 w8.heap.size 0 45 zeroCells (ckT.cells rv) rfl rfl (heap_alloc_at _ _) (by rw [Ck.cells_len, HD.out]) (oneCell_ck HRF8.out.one) (by simp [zeroCells, Ck.cells_len, HD.out]) ?_; intro w9 hhw9 hsw9; have hmw9 := ((Mod.refl [] w8).alloc (.cells zeroCells.toArray 45)).trans hsw9 (by simp); rw [splice_all _ _ (by simp [zeroCells, Ck.cells_len, HD.out])] at hhw9; have roww9 := Row.of_heap hhw9; have HHw9 := Lib.hid hhw9; clear hhw9; have hr9 := hr8.mod hmw9 (by simp); have c0 : w9.cell? ⟨ub, 0, none⟩ = some (.int .i64 2) := hr9 0 _ rfl; have c1 : w9.cell? ⟨ub, 1, none⟩ = some (.int .i64 1) := hr9 1 _ rfl; have c2 : w9.cell? ⟨ub, 2, none⟩ = some (.int .i64 3) := hr9 2 _ rfl) | fail)
  have hs89 := lt_of_heap HHw9.out
  have o9 := o8.step hmw9 (b := w8.heap.size) (Nat.le_refl _) hs89
  have hrf9 := HRF8.out.mod0 hmw9
  obtain ⟨kb, hkb⟩ : ∃ kb, w8.heap.size = kb := ⟨_, rfl⟩
  rw [hkb]
  rw [hkb] at o9 roww9 hs89
  have HRF9 := Lib.hid hrf9
  clear hsw9 HHw9 hmw9 hrf9 hr8 o8 HRF8 hkb
  refine (at_any _ tb mb lv7 [ckT] u0 o9.tab).mono ?_
  rintro e w10 ⟨rfl, hm10⟩
  rw [s_at]
  have hr10 := hr9.mod hm10 (by simp)
  have kr10 := roww9.mod hm10 (by simp)
  have hrf10 := HRF9.out.mod0 hm10
  have o10 := (o9.same hm10).1
  clear c0 c1 c2
  have c0 : w10.cell? ⟨ub, 0, none⟩ = some (.int .i64 2) := hr10 0 _ rfl
  have c1 : w10.cell? ⟨ub, 1, none⟩ = some (.int .i64 1) := hr10 1 _ rfl
  have c2 : w10.cell? ⟨ub, 2, none⟩ = some (.int .i64 3) := hr10 2 _ rfl
  clear hr9 roww9 HRF9 o9 hm10
  have HRF10 := Lib.hid hrf10
  clear hrf10
  go_wp2_with fail
  refine (live_any _ tb mb lv7 [ckT] 2 1 o10.tab).mono ?_
  rintro e w11 ⟨v11, rfl, hv11, hm11, hf11⟩
  rw [s_live] at hv11
  obtain ⟨a11, n11, c11, rfl⟩ := Own.isSlice hv11
  have o11 := o10.own hm11 hv11 hf11
  have hr11 := hr10.mod hm11 (by simp)
  have kr11 := kr10.mod hm11 (by simp)
  have hrf11 := HRF10.out.mod0 hm11
  obtain ⟨K, hK⟩ : ∃ K, (Value.slice a11 n11 c11).ownBlock.toList ++ [kb, ub] = K := ⟨_, rfl⟩
  rw [hK] at o11
  have hK1 : ∀ b, (Value.slice a11 n11 c11).ownBlock = some b → b ∈ K := by intro b hb; rw [← hK, hb]; simp
  have hK2 : kb ∈ K := by rw [← hK]; simp
  have hK3 : ub ∈ K := by rw [← hK]; simp
  have HV11 := Lib.hid hv11
  have HRF11 := Lib.hid hrf11
  clear c0 c1 c2 hr10 kr10 HRF10 o10 hm11 hf11 hv11 hrf11 hK
  go_wp2_with fail
  refine (count_any _ tb mb lv7 [ckT] 0 o11.tab).mono ?_
  rintro e w12 ⟨rfl, hm12⟩
  rw [s_count]
  have o12 := (o11.same hm12).1
  have hr12 := hr11.mod hm12 (by simp)
  have kr12 := kr11.mod hm12 (by simp)
  have HRF12 := Lib.hid (HRF11.out.mod0 hm12)
  have HV12 := Lib.hid (HV11.out.mod0 hm12)
  clear o11 hr11 kr11 HRF11 HV11 hm12
  go_wp2_with fail
  refine (lose_any _ tb mb lv7 [ckT] 1 o12.tab).mono ?_
  rintro e w13 hp13
  rw [s_lose] at hp13
  obtain ⟨rfl, ⟨lv13, o13⟩, k13, f13, z13⟩ := o12.op hp13
  have hr13 := k13.row hr12 hK3
  have kr13 := k13.row kr12 hK2
  have HRF13 := Lib.hid (f13 _ _ HRF12.out)
  have HV13 : Hid (Ints w13 (.slice a11 n11 c11) [1]) := Lib.hid (k13.own HV12.out hK1)
  clear o12 hr12 kr12 HRF12 HV12 hp13 k13 f13 z13
  go_wp2_with (go_at_call 25; refine (digest_any 9 _).mono ?_; rintro e w14 ⟨rfl, hm14⟩)
  have o14 := (o13.same hm14).1
  have hr14 := hr13.mod hm14 (by simp)
  have kr14 := kr13.mod hm14 (by simp)
  have HRF14 := Lib.hid (HRF13.out.mod0 hm14)
  have HV14 := Lib.hid (HV13.out.mod0 hm14)
  clear o13 hr13 kr13 HRF13 HV13 hm14
  refine (lost_any _ tb mb lv13 [ckL] (digOf 9) (by simp [digOf]) o14.tab).mono ?_
  rintro e w15 ⟨v15, rfl, hv15, hm15, hf15⟩
  rw [s_lost] at hv15
  obtain ⟨a15, n15, c15, rfl⟩ := Own.isSlice hv15
  have o15 := o14.own hm15 hv15 hf15
  have hr15 := hr14.mod hm15 (by simp)
  have kr15 := kr14.mod hm15 (by simp)
  have HRF15 := Lib.hid (HRF14.out.mod0 hm15)
  have HV15 := Lib.hid (HV14.out.mod0 hm15)
  obtain ⟨K', hK'⟩ : ∃ K', (Value.slice a15 n15 c15).ownBlock.toList ++ K = K' := ⟨_, rfl⟩
  rw [hK'] at o15
  have hK1' : ∀ b, (Value.slice a11 n11 c11).ownBlock = some b → b ∈ K' := by intro b hb; rw [← hK']; exact List.mem_append_right _ (hK1 b hb)
  have hK2' : kb ∈ K' := by rw [← hK']; exact List.mem_append_right _ hK2
  have hK3' : ub ∈ K' := by rw [← hK']; exact List.mem_append_right _ hK3
  have hK4' : ∀ b, (Value.slice a15 n15 c15).ownBlock = some b → b ∈ K' := by intro b hb; rw [← hK', hb]; simp
  have HW15 := Lib.hid hv15
  clear o14 hr14 kr14 HRF14 HV14 hm15 hf15 hv15 hK' hK1 hK2 hK3
  go_wp2_with fail
  refine (unrefer_any _ tb mb lv13 [ckL] 1 1 1 o15.tab).mono ?_
  rintro e w16 hp16
  rw [s_un1] at hp16
  obtain ⟨rfl, ⟨lv16, o16⟩, k16, f16, z16⟩ := o15.op hp16
  have hr16 := k16.row hr15 hK3'
  have kr16 := k16.row kr15 hK2'
  have HRF16 := Lib.hid (f16 _ _ HRF15.out)
  have HV16 : Hid (Ints w16 (.slice a11 n11 c11) [1]) := Lib.hid (k16.own HV15.out hK1')
  have HW16 : Hid (Ints w16 (.slice a15 n15 c15) [1]) := Lib.hid (k16.own HW15.out hK4')
  clear o15 hr15 kr15 HRF15 HV15 HW15 hp16 k16 f16 z16
  go_wp2_with fail
  refine (unrefer_any _ tb mb lv16 [ckM] 1 0 2 o16.tab).mono ?_
  rintro e w17 hp17
  rw [s_un2] at hp17
  obtain ⟨rfl, ⟨lv17, o17⟩, k17, f17, z17⟩ := o16.op hp17
  have hr17 := k17.row hr16 hK3'
  have kr17 := k17.row kr16 hK2'
  have HRF17 := Lib.hid (f17 _ _ HRF16.out)
  have HV17 : Hid (Ints w17 (.slice a11 n11 c11) [1]) := Lib.hid (k17.own HV16.out hK1')
  have HW17 : Hid (Ints w17 (.slice a15 n15 c15) [1]) := Lib.hid (k17.own HW16.out hK4')
  clear o16 hr16 kr16 HRF16 HV16 HW16 hp17 k17 f17 z17
  go_wp2_with fail
  go_cut [20] (fun s20 wx => ∃ nb : Nat, s20 = .pointer (some ⟨nb, 0, none⟩) ∧ Want w17 nb wx)
  case first =>
    have hS0 : U0 ub w17.drew := ⟨hr17 0 _ rfl, hr17 1 _ rfl, hr17 2 _ rfl⟩
    have hM0 : Mod [] w17 w17.drew := (Mod.refl _ _).drew
    have hbuild : ∀ (a : Option Addr) (n m : Nat) (w : World), (Instr.build 45 #[(0, .int .i64 1), (1, digV (digOf 9)), (2, .int .u32 7), (3, .agg #[.int .i64 2, .int .i64 1, .int .i64 3]), (5, .slice a n m)]).run Try.prog w = .ok (.agg (ckT.cells (.slice a n m)).toArray) w := fun a n m w => run_build_ck w ckT a n m rfl rfl
    refine wp_region_held_drew (S := U0 ub) (by kernel_rfl) hS0 (fun hHeld => ?_)
    refine wpAnyH_take (i := 1) (v := (.agg #[.int .i64 2, .int .i64 1, .int .i64 3])) rfl (by kernel_rfl) (by kernel_rfl) (by kernel_rfl) (fun _ _ _ h => h) (Or.inl ⟨by rfl, ?_⟩) (by assumption) ?_
    · (intro wz hSz; obtain ⟨z0, z1, z2⟩ := hSz; go_simp)
    (try simp only [Act.put, List.setIfInBounds_toArray])
    refine wpAnyH_take (i := 2) (v := (.agg #[.int .i64 0, .int .i64 2])) rfl (by kernel_rfl) (by kernel_rfl) (by kernel_rfl) (fun _ _ _ h => h) (Or.inl ⟨by rfl, ?_⟩) (by assumption) ?_
    · (intro wz hSz; go_simp)
    (try simp only [Act.put])
    refine wpAnyH_take (i := 3) (v := (.agg #[.int .i64 1, .int .i64 1])) rfl (by kernel_rfl) (by kernel_rfl) (by kernel_rfl) (fun _ _ _ h => h) (Or.inl ⟨by rfl, ?_⟩) (by assumption) ?_
    · (intro wz hSz; go_simp)
    (try simp only [Act.put])
  -- REGION 16
    refine wpAnyH_ready (rs := [0, 4, 6]) (by kernel_rfl) (by simp) ?_
    refine AllReadyH.cons (i := 0) rfl (fun K' hK => ?_) (AllReadyH.cons (i := 4) rfl (fun K' hK => ?_) (AllReadyH.cons (i := 6) rfl (fun K' hK => ?_) AllReadyH.nil))
    · go_simp
      refine (digest_any 9 _).mono ?_
      rintro e y1 ⟨rfl, hy1⟩
      go_wp2_with fail
      have hM1 : Mod [] w17 y1 := hM0.trans_nil hy1
      have hS1 := U0.mod hS0 hy1
      have hsz1 := hM1.size
      skip
      skip
      refine hK.out _ _ hS1 (fun _ => ?_)
      clear hK K'
      (try simp only [Act.put, List.setIfInBounds_toArray, List.set_cons_zero, List.set_cons_succ])
      refine wpAnyH_ready (rs := [4, 6]) (by kernel_rfl) (by simp) ?_
      refine AllReadyH.cons (i := 4) rfl (fun K' hK => ?_) (AllReadyH.cons (i := 6) rfl (fun K' hK => ?_) AllReadyH.nil)
      · go_simp
        have hy2 : Mod [] y1 ((y1).alloc (.cells #[.int .i64 0, .int .i64 2, .int .i64 1, .int .i64 1] 113)) := (Mod.refl _ _).alloc _
        have hM2 : Mod [] w17 ((y1).alloc (.cells #[.int .i64 0, .int .i64 2, .int .i64 1, .int .i64 1] 113)) := hM1.trans_nil hy2
        have hS2 := U0.mod hS1 hy2
        have hR2 : Blk1 ((y1).alloc (.cells #[.int .i64 0, .int .i64 2, .int .i64 1, .int .i64 1] 113)) (y1.heap.size) (.cells #[.int .i64 0, .int .i64 2, .int .i64 1, .int .i64 1] 113 (0, 0)) := ⟨by have e := heap_alloc_at (y1) (.cells #[.int .i64 0, .int .i64 2, .int .i64 1, .int .i64 1] 113); rw [show (y1).heap.size = y1.heap.size by simp] at e; exact e⟩
        skip
        skip
        refine hK.out _ _ hS2 (fun _ => ?_)
        clear hK K'
        (try simp only [Act.put, List.setIfInBounds_toArray, List.set_cons_zero, List.set_cons_succ])
        refine wpAnyH_take (i := 5) (oi := { dst := some 79, op := .build 45 #[(0, .const (.int .i64 1)), (1, .tmp 74), (2, .const (.int .u32 7)), (3, .tmp 75), (5, .tmp 78)], type := 45, pos := "law.go:28", after := #[{ on := 0, ground := .data }, { on := 1, ground := .data }, { on := 4, ground := .data }], guard := none }) (v := (.agg (ckT.cells (.slice (some ⟨y1.heap.size, 0, none⟩) 2 2)).toArray)) rfl (by kernel_rfl) (by kernel_rfl) (by kernel_rfl) (fun _ _ _ h => h) (yieldsIf_build_ck (by rfl) (.const (.int .i64 1)) (.tmp 74) (.const (.int .u32 7)) (.tmp 75) (.tmp 78) rfl ckT (some ⟨y1.heap.size, 0, none⟩) 2 2 rfl rfl rfl rfl rfl rfl rfl) (by assumption) ?_
        (try dsimp only)
        (try simp only [Act.put, List.setIfInBounds_toArray, List.set_cons_zero, List.set_cons_succ])
        refine wpAnyH_ready (rs := [6]) (by kernel_rfl) (by simp) ?_
        refine AllReadyH.cons (i := 6) rfl (fun K' hK => ?_) AllReadyH.nil
        · go_simp
          have hy3 : Mod [] ((y1).alloc (.cells #[.int .i64 0, .int .i64 2, .int .i64 1, .int .i64 1] 113)) ((((y1).alloc (.cells #[.int .i64 0, .int .i64 2, .int .i64 1, .int .i64 1] 113))).alloc (.cells zeroCells.toArray 45)) := (Mod.refl _ _).alloc _
          have hM3 : Mod [] w17 ((((y1).alloc (.cells #[.int .i64 0, .int .i64 2, .int .i64 1, .int .i64 1] 113))).alloc (.cells zeroCells.toArray 45)) := hM2.trans_nil hy3
          have hS3 := U0.mod hS2 hy3
          have hZ3 : Blk1 ((((y1).alloc (.cells #[.int .i64 0, .int .i64 2, .int .i64 1, .int .i64 1] 113))).alloc (.cells zeroCells.toArray 45)) (y1.heap.size + 1) (.cells zeroCells.toArray 45 (0, 0)) := ⟨by have e := heap_alloc_at (((y1).alloc (.cells #[.int .i64 0, .int .i64 2, .int .i64 1, .int .i64 1] 113))) (.cells zeroCells.toArray 45); rw [show (((y1).alloc (.cells #[.int .i64 0, .int .i64 2, .int .i64 1, .int .i64 1] 113))).heap.size = y1.heap.size + 1 by simp] at e; exact e⟩
          have hR3 := hR2.heapOf hy3
          skip
          refine hK.out _ _ hS3 (fun _ => ?_)
          clear hK K'
          (try simp only [Act.put, List.setIfInBounds_toArray, List.set_cons_zero, List.set_cons_succ])
          refine wpAnyH_ready (rs := [7]) (by kernel_rfl) (by simp) ?_
          refine AllReadyH.cons (i := 7) rfl (fun K' hK => ?_) AllReadyH.nil
          rw [if_pos (by rfl)]
          refine wp_store_at 45 (.tmp 20) (.tmp 79) rfl 23 info45 _ 0 45 zeroCells (ckT.cells (.slice (some ⟨y1.heap.size, 0, none⟩) 2 2)) rfl rfl hZ3.1 rfl (oneCell_ck rfl) (by rw [Ck.cells_len]; decide) ?_
          intro w18 hh18 hm18
          have hfin := fin16 hM3 hR3 hZ3 (by omega) hh18 hm18
          refine hK.out _ _ (U0.mod1 hS3 hZ3 hm18) (fun _ => ?_)
          clear hK K'
          (try simp only [Act.put, List.setIfInBounds_toArray])
          refine wpAnyH_done (by kernel_rfl) ?_ _
          go_wp2_with fail
          go_meet
          exact ⟨_, rfl, hfin⟩
      · go_simp
        have hy4 : Mod [] y1 ((y1).alloc (.cells zeroCells.toArray 45)) := (Mod.refl _ _).alloc _
        have hM4 : Mod [] w17 ((y1).alloc (.cells zeroCells.toArray 45)) := hM1.trans_nil hy4
        have hS4 := U0.mod hS1 hy4
        have hZ4 : Blk1 ((y1).alloc (.cells zeroCells.toArray 45)) (y1.heap.size) (.cells zeroCells.toArray 45 (0, 0)) := ⟨by have e := heap_alloc_at (y1) (.cells zeroCells.toArray 45); rw [show (y1).heap.size = y1.heap.size by simp] at e; exact e⟩
        skip
        skip
        refine hK.out _ _ hS4 (fun _ => ?_)
        clear hK K'
        (try simp only [Act.put, List.setIfInBounds_toArray, List.set_cons_zero, List.set_cons_succ])
        refine wpAnyH_ready (rs := [4]) (by kernel_rfl) (by simp) ?_
        refine AllReadyH.cons (i := 4) rfl (fun K' hK => ?_) AllReadyH.nil
        · go_simp
          have hy5 : Mod [] ((y1).alloc (.cells zeroCells.toArray 45)) ((((y1).alloc (.cells zeroCells.toArray 45))).alloc (.cells #[.int .i64 0, .int .i64 2, .int .i64 1, .int .i64 1] 113)) := (Mod.refl _ _).alloc _
          have hM5 : Mod [] w17 ((((y1).alloc (.cells zeroCells.toArray 45))).alloc (.cells #[.int .i64 0, .int .i64 2, .int .i64 1, .int .i64 1] 113)) := hM4.trans_nil hy5
          have hS5 := U0.mod hS4 hy5
          have hR5 : Blk1 ((((y1).alloc (.cells zeroCells.toArray 45))).alloc (.cells #[.int .i64 0, .int .i64 2, .int .i64 1, .int .i64 1] 113)) (y1.heap.size + 1) (.cells #[.int .i64 0, .int .i64 2, .int .i64 1, .int .i64 1] 113 (0, 0)) := ⟨by have e := heap_alloc_at (((y1).alloc (.cells zeroCells.toArray 45))) (.cells #[.int .i64 0, .int .i64 2, .int .i64 1, .int .i64 1] 113); rw [show (((y1).alloc (.cells zeroCells.toArray 45))).heap.size = y1.heap.size + 1 by simp] at e; exact e⟩
          skip
          have hZ5 := hZ4.heapOf hy5
          refine hK.out _ _ hS5 (fun _ => ?_)
          clear hK K'
          (try simp only [Act.put, List.setIfInBounds_toArray, List.set_cons_zero, List.set_cons_succ])
          refine wpAnyH_take (i := 5) (oi := { dst := some 79, op := .build 45 #[(0, .const (.int .i64 1)), (1, .tmp 74), (2, .const (.int .u32 7)), (3, .tmp 75), (5, .tmp 78)], type := 45, pos := "law.go:28", after := #[{ on := 0, ground := .data }, { on := 1, ground := .data }, { on := 4, ground := .data }], guard := none }) (v := (.agg (ckT.cells (.slice (some ⟨y1.heap.size + 1, 0, none⟩) 2 2)).toArray)) rfl (by kernel_rfl) (by kernel_rfl) (by kernel_rfl) (fun _ _ _ h => h) (yieldsIf_build_ck (by rfl) (.const (.int .i64 1)) (.tmp 74) (.const (.int .u32 7)) (.tmp 75) (.tmp 78) rfl ckT (some ⟨y1.heap.size + 1, 0, none⟩) 2 2 rfl rfl rfl rfl rfl rfl rfl) (by assumption) ?_
          (try dsimp only)
          (try simp only [Act.put, List.setIfInBounds_toArray, List.set_cons_zero, List.set_cons_succ])
          refine wpAnyH_ready (rs := [7]) (by kernel_rfl) (by simp) ?_
          refine AllReadyH.cons (i := 7) rfl (fun K' hK => ?_) AllReadyH.nil
          rw [if_pos (by rfl)]
          refine wp_store_at 45 (.tmp 20) (.tmp 79) rfl 23 info45 _ 0 45 zeroCells (ckT.cells (.slice (some ⟨y1.heap.size + 1, 0, none⟩) 2 2)) rfl rfl hZ5.1 rfl (oneCell_ck rfl) (by rw [Ck.cells_len]; decide) ?_
          intro w18 hh18 hm18
          have hfin := fin16 hM5 hR5 hZ5 (by omega) hh18 hm18
          refine hK.out _ _ (U0.mod1 hS5 hZ5 hm18) (fun _ => ?_)
          clear hK K'
          (try simp only [Act.put, List.setIfInBounds_toArray])
          refine wpAnyH_done (by kernel_rfl) ?_ _
          go_wp2_with fail
          go_meet
          exact ⟨_, rfl, hfin⟩
    · go_simp
      have hy6 : Mod [] w17.drew ((w17.drew).alloc (.cells #[.int .i64 0, .int .i64 2, .int .i64 1, .int .i64 1] 113)) := (Mod.refl _ _).alloc _
      have hM6 : Mod [] w17 ((w17.drew).alloc (.cells #[.int .i64 0, .int .i64 2, .int .i64 1, .int .i64 1] 113)) := hM0.trans_nil hy6
      have hS6 := U0.mod hS0 hy6
      have hR6 : Blk1 ((w17.drew).alloc (.cells #[.int .i64 0, .int .i64 2, .int .i64 1, .int .i64 1] 113)) (w17.heap.size) (.cells #[.int .i64 0, .int .i64 2, .int .i64 1, .int .i64 1] 113 (0, 0)) := ⟨by have e := heap_alloc_at (w17.drew) (.cells #[.int .i64 0, .int .i64 2, .int .i64 1, .int .i64 1] 113); rw [show (w17.drew).heap.size = w17.heap.size by simp] at e; exact e⟩
      skip
      skip
      refine hK.out _ _ hS6 (fun _ => ?_)
      clear hK K'
      (try simp only [Act.put, List.setIfInBounds_toArray, List.set_cons_zero, List.set_cons_succ])
      refine wpAnyH_ready (rs := [0, 6]) (by kernel_rfl) (by simp) ?_
      refine AllReadyH.cons (i := 0) rfl (fun K' hK => ?_) (AllReadyH.cons (i := 6) rfl (fun K' hK => ?_) AllReadyH.nil)
      · go_simp
        refine (digest_any 9 _).mono ?_
        rintro e y7 ⟨rfl, hy7⟩
        go_wp2_with fail
        have hM7 : Mod [] w17 y7 := hM6.trans_nil hy7
        have hS7 := U0.mod hS6 hy7
        have hsz7 := hM7.size
        have hR7 := hR6.heapOf hy7
        skip
        refine hK.out _ _ hS7 (fun _ => ?_)
        clear hK K'
        (try simp only [Act.put, List.setIfInBounds_toArray, List.set_cons_zero, List.set_cons_succ])
        refine wpAnyH_take (i := 5) (oi := { dst := some 79, op := .build 45 #[(0, .const (.int .i64 1)), (1, .tmp 74), (2, .const (.int .u32 7)), (3, .tmp 75), (5, .tmp 78)], type := 45, pos := "law.go:28", after := #[{ on := 0, ground := .data }, { on := 1, ground := .data }, { on := 4, ground := .data }], guard := none }) (v := (.agg (ckT.cells (.slice (some ⟨w17.heap.size, 0, none⟩) 2 2)).toArray)) rfl (by kernel_rfl) (by kernel_rfl) (by kernel_rfl) (fun _ _ _ h => h) (yieldsIf_build_ck (by rfl) (.const (.int .i64 1)) (.tmp 74) (.const (.int .u32 7)) (.tmp 75) (.tmp 78) rfl ckT (some ⟨w17.heap.size, 0, none⟩) 2 2 rfl rfl rfl rfl rfl rfl rfl) (by assumption) ?_
        (try dsimp only)
        (try simp only [Act.put, List.setIfInBounds_toArray, List.set_cons_zero, List.set_cons_succ])
        refine wpAnyH_ready (rs := [6]) (by kernel_rfl) (by simp) ?_
        refine AllReadyH.cons (i := 6) rfl (fun K' hK => ?_) AllReadyH.nil
        · go_simp
          have hy8 : Mod [] y7 ((y7).alloc (.cells zeroCells.toArray 45)) := (Mod.refl _ _).alloc _
          have hM8 : Mod [] w17 ((y7).alloc (.cells zeroCells.toArray 45)) := hM7.trans_nil hy8
          have hS8 := U0.mod hS7 hy8
          have hZ8 : Blk1 ((y7).alloc (.cells zeroCells.toArray 45)) (y7.heap.size) (.cells zeroCells.toArray 45 (0, 0)) := ⟨by have e := heap_alloc_at (y7) (.cells zeroCells.toArray 45); rw [show (y7).heap.size = y7.heap.size by simp] at e; exact e⟩
          have hR8 := hR7.heapOf hy8
          skip
          refine hK.out _ _ hS8 (fun _ => ?_)
          clear hK K'
          (try simp only [Act.put, List.setIfInBounds_toArray, List.set_cons_zero, List.set_cons_succ])
          refine wpAnyH_ready (rs := [7]) (by kernel_rfl) (by simp) ?_
          refine AllReadyH.cons (i := 7) rfl (fun K' hK => ?_) AllReadyH.nil
          rw [if_pos (by rfl)]
          refine wp_store_at 45 (.tmp 20) (.tmp 79) rfl 23 info45 _ 0 45 zeroCells (ckT.cells (.slice (some ⟨w17.heap.size, 0, none⟩) 2 2)) rfl rfl hZ8.1 rfl (oneCell_ck rfl) (by rw [Ck.cells_len]; decide) ?_
          intro w18 hh18 hm18
          have hfin := fin16 hM8 hR8 hZ8 (by omega) hh18 hm18
          refine hK.out _ _ (U0.mod1 hS8 hZ8 hm18) (fun _ => ?_)
          clear hK K'
          (try simp only [Act.put, List.setIfInBounds_toArray])
          refine wpAnyH_done (by kernel_rfl) ?_ _
          go_wp2_with fail
          go_meet
          exact ⟨_, rfl, hfin⟩
      · go_simp
        have hy9 : Mod [] ((w17.drew).alloc (.cells #[.int .i64 0, .int .i64 2, .int .i64 1, .int .i64 1] 113)) ((((w17.drew).alloc (.cells #[.int .i64 0, .int .i64 2, .int .i64 1, .int .i64 1] 113))).alloc (.cells zeroCells.toArray 45)) := (Mod.refl _ _).alloc _
        have hM9 : Mod [] w17 ((((w17.drew).alloc (.cells #[.int .i64 0, .int .i64 2, .int .i64 1, .int .i64 1] 113))).alloc (.cells zeroCells.toArray 45)) := hM6.trans_nil hy9
        have hS9 := U0.mod hS6 hy9
        have hZ9 : Blk1 ((((w17.drew).alloc (.cells #[.int .i64 0, .int .i64 2, .int .i64 1, .int .i64 1] 113))).alloc (.cells zeroCells.toArray 45)) (w17.heap.size + 1) (.cells zeroCells.toArray 45 (0, 0)) := ⟨by have e := heap_alloc_at (((w17.drew).alloc (.cells #[.int .i64 0, .int .i64 2, .int .i64 1, .int .i64 1] 113))) (.cells zeroCells.toArray 45); rw [show (((w17.drew).alloc (.cells #[.int .i64 0, .int .i64 2, .int .i64 1, .int .i64 1] 113))).heap.size = w17.heap.size + 1 by simp] at e; exact e⟩
        have hR9 := hR6.heapOf hy9
        skip
        refine hK.out _ _ hS9 (fun _ => ?_)
        clear hK K'
        (try simp only [Act.put, List.setIfInBounds_toArray, List.set_cons_zero, List.set_cons_succ])
        refine wpAnyH_ready (rs := [0]) (by kernel_rfl) (by simp) ?_
        refine AllReadyH.cons (i := 0) rfl (fun K' hK => ?_) AllReadyH.nil
        · go_simp
          refine (digest_any 9 _).mono ?_
          rintro e y10 ⟨rfl, hy10⟩
          go_wp2_with fail
          have hM10 : Mod [] w17 y10 := hM9.trans_nil hy10
          have hS10 := U0.mod hS9 hy10
          have hsz10 := hM10.size
          have hR10 := hR9.heapOf hy10
          have hZ10 := hZ9.heapOf hy10
          refine hK.out _ _ hS10 (fun _ => ?_)
          clear hK K'
          (try simp only [Act.put, List.setIfInBounds_toArray, List.set_cons_zero, List.set_cons_succ])
          refine wpAnyH_take (i := 5) (oi := { dst := some 79, op := .build 45 #[(0, .const (.int .i64 1)), (1, .tmp 74), (2, .const (.int .u32 7)), (3, .tmp 75), (5, .tmp 78)], type := 45, pos := "law.go:28", after := #[{ on := 0, ground := .data }, { on := 1, ground := .data }, { on := 4, ground := .data }], guard := none }) (v := (.agg (ckT.cells (.slice (some ⟨w17.heap.size, 0, none⟩) 2 2)).toArray)) rfl (by kernel_rfl) (by kernel_rfl) (by kernel_rfl) (fun _ _ _ h => h) (yieldsIf_build_ck (by rfl) (.const (.int .i64 1)) (.tmp 74) (.const (.int .u32 7)) (.tmp 75) (.tmp 78) rfl ckT (some ⟨w17.heap.size, 0, none⟩) 2 2 rfl rfl rfl rfl rfl rfl rfl) (by assumption) ?_
          (try dsimp only)
          (try simp only [Act.put, List.setIfInBounds_toArray, List.set_cons_zero, List.set_cons_succ])
          refine wpAnyH_ready (rs := [7]) (by kernel_rfl) (by simp) ?_
          refine AllReadyH.cons (i := 7) rfl (fun K' hK => ?_) AllReadyH.nil
          rw [if_pos (by rfl)]
          refine wp_store_at 45 (.tmp 20) (.tmp 79) rfl 23 info45 _ 0 45 zeroCells (ckT.cells (.slice (some ⟨w17.heap.size, 0, none⟩) 2 2)) rfl rfl hZ10.1 rfl (oneCell_ck rfl) (by rw [Ck.cells_len]; decide) ?_
          intro w18 hh18 hm18
          have hfin := fin16 hM10 hR10 hZ10 (by omega) hh18 hm18
          refine hK.out _ _ (U0.mod1 hS10 hZ10 hm18) (fun _ => ?_)
          clear hK K'
          (try simp only [Act.put, List.setIfInBounds_toArray])
          refine wpAnyH_done (by kernel_rfl) ?_ _
          go_wp2_with fail
          go_meet
          exact ⟨_, rfl, hfin⟩
    · go_simp
      have hy11 : Mod [] w17.drew ((w17.drew).alloc (.cells zeroCells.toArray 45)) := (Mod.refl _ _).alloc _
      have hM11 : Mod [] w17 ((w17.drew).alloc (.cells zeroCells.toArray 45)) := hM0.trans_nil hy11
      have hS11 := U0.mod hS0 hy11
      have hZ11 : Blk1 ((w17.drew).alloc (.cells zeroCells.toArray 45)) (w17.heap.size) (.cells zeroCells.toArray 45 (0, 0)) := ⟨by have e := heap_alloc_at (w17.drew) (.cells zeroCells.toArray 45); rw [show (w17.drew).heap.size = w17.heap.size by simp] at e; exact e⟩
      skip
      skip
      refine hK.out _ _ hS11 (fun _ => ?_)
      clear hK K'
      (try simp only [Act.put, List.setIfInBounds_toArray, List.set_cons_zero, List.set_cons_succ])
      refine wpAnyH_ready (rs := [0, 4]) (by kernel_rfl) (by simp) ?_
      refine AllReadyH.cons (i := 0) rfl (fun K' hK => ?_) (AllReadyH.cons (i := 4) rfl (fun K' hK => ?_) AllReadyH.nil)
      · go_simp
        refine (digest_any 9 _).mono ?_
        rintro e y12 ⟨rfl, hy12⟩
        go_wp2_with fail
        have hM12 : Mod [] w17 y12 := hM11.trans_nil hy12
        have hS12 := U0.mod hS11 hy12
        have hsz12 := hM12.size
        skip
        have hZ12 := hZ11.heapOf hy12
        refine hK.out _ _ hS12 (fun _ => ?_)
        clear hK K'
        (try simp only [Act.put, List.setIfInBounds_toArray, List.set_cons_zero, List.set_cons_succ])
        refine wpAnyH_ready (rs := [4]) (by kernel_rfl) (by simp) ?_
        refine AllReadyH.cons (i := 4) rfl (fun K' hK => ?_) AllReadyH.nil
        · go_simp
          have hy13 : Mod [] y12 ((y12).alloc (.cells #[.int .i64 0, .int .i64 2, .int .i64 1, .int .i64 1] 113)) := (Mod.refl _ _).alloc _
          have hM13 : Mod [] w17 ((y12).alloc (.cells #[.int .i64 0, .int .i64 2, .int .i64 1, .int .i64 1] 113)) := hM12.trans_nil hy13
          have hS13 := U0.mod hS12 hy13
          have hR13 : Blk1 ((y12).alloc (.cells #[.int .i64 0, .int .i64 2, .int .i64 1, .int .i64 1] 113)) (y12.heap.size) (.cells #[.int .i64 0, .int .i64 2, .int .i64 1, .int .i64 1] 113 (0, 0)) := ⟨by have e := heap_alloc_at (y12) (.cells #[.int .i64 0, .int .i64 2, .int .i64 1, .int .i64 1] 113); rw [show (y12).heap.size = y12.heap.size by simp] at e; exact e⟩
          skip
          have hZ13 := hZ12.heapOf hy13
          refine hK.out _ _ hS13 (fun _ => ?_)
          clear hK K'
          (try simp only [Act.put, List.setIfInBounds_toArray, List.set_cons_zero, List.set_cons_succ])
          refine wpAnyH_take (i := 5) (oi := { dst := some 79, op := .build 45 #[(0, .const (.int .i64 1)), (1, .tmp 74), (2, .const (.int .u32 7)), (3, .tmp 75), (5, .tmp 78)], type := 45, pos := "law.go:28", after := #[{ on := 0, ground := .data }, { on := 1, ground := .data }, { on := 4, ground := .data }], guard := none }) (v := (.agg (ckT.cells (.slice (some ⟨y12.heap.size, 0, none⟩) 2 2)).toArray)) rfl (by kernel_rfl) (by kernel_rfl) (by kernel_rfl) (fun _ _ _ h => h) (yieldsIf_build_ck (by rfl) (.const (.int .i64 1)) (.tmp 74) (.const (.int .u32 7)) (.tmp 75) (.tmp 78) rfl ckT (some ⟨y12.heap.size, 0, none⟩) 2 2 rfl rfl rfl rfl rfl rfl rfl) (by assumption) ?_
          (try dsimp only)
          (try simp only [Act.put, List.setIfInBounds_toArray, List.set_cons_zero, List.set_cons_succ])
          refine wpAnyH_ready (rs := [7]) (by kernel_rfl) (by simp) ?_
          refine AllReadyH.cons (i := 7) rfl (fun K' hK => ?_) AllReadyH.nil
          rw [if_pos (by rfl)]
          refine wp_store_at 45 (.tmp 20) (.tmp 79) rfl 23 info45 _ 0 45 zeroCells (ckT.cells (.slice (some ⟨y12.heap.size, 0, none⟩) 2 2)) rfl rfl hZ13.1 rfl (oneCell_ck rfl) (by rw [Ck.cells_len]; decide) ?_
          intro w18 hh18 hm18
          have hfin := fin16 hM13 hR13 hZ13 (by omega) hh18 hm18
          refine hK.out _ _ (U0.mod1 hS13 hZ13 hm18) (fun _ => ?_)
          clear hK K'
          (try simp only [Act.put, List.setIfInBounds_toArray])
          refine wpAnyH_done (by kernel_rfl) ?_ _
          go_wp2_with fail
          go_meet
          exact ⟨_, rfl, hfin⟩
      · go_simp
        have hy14 : Mod [] ((w17.drew).alloc (.cells zeroCells.toArray 45)) ((((w17.drew).alloc (.cells zeroCells.toArray 45))).alloc (.cells #[.int .i64 0, .int .i64 2, .int .i64 1, .int .i64 1] 113)) := (Mod.refl _ _).alloc _
        have hM14 : Mod [] w17 ((((w17.drew).alloc (.cells zeroCells.toArray 45))).alloc (.cells #[.int .i64 0, .int .i64 2, .int .i64 1, .int .i64 1] 113)) := hM11.trans_nil hy14
        have hS14 := U0.mod hS11 hy14
        have hR14 : Blk1 ((((w17.drew).alloc (.cells zeroCells.toArray 45))).alloc (.cells #[.int .i64 0, .int .i64 2, .int .i64 1, .int .i64 1] 113)) (w17.heap.size + 1) (.cells #[.int .i64 0, .int .i64 2, .int .i64 1, .int .i64 1] 113 (0, 0)) := ⟨by have e := heap_alloc_at (((w17.drew).alloc (.cells zeroCells.toArray 45))) (.cells #[.int .i64 0, .int .i64 2, .int .i64 1, .int .i64 1] 113); rw [show (((w17.drew).alloc (.cells zeroCells.toArray 45))).heap.size = w17.heap.size + 1 by simp] at e; exact e⟩
        skip
        have hZ14 := hZ11.heapOf hy14
        refine hK.out _ _ hS14 (fun _ => ?_)
        clear hK K'
        (try simp only [Act.put, List.setIfInBounds_toArray, List.set_cons_zero, List.set_cons_succ])
        refine wpAnyH_ready (rs := [0]) (by kernel_rfl) (by simp) ?_
        refine AllReadyH.cons (i := 0) rfl (fun K' hK => ?_) AllReadyH.nil
        · go_simp
          refine (digest_any 9 _).mono ?_
          rintro e y15 ⟨rfl, hy15⟩
          go_wp2_with fail
          have hM15 : Mod [] w17 y15 := hM14.trans_nil hy15
          have hS15 := U0.mod hS14 hy15
          have hsz15 := hM15.size
          have hR15 := hR14.heapOf hy15
          have hZ15 := hZ14.heapOf hy15
          refine hK.out _ _ hS15 (fun _ => ?_)
          clear hK K'
          (try simp only [Act.put, List.setIfInBounds_toArray, List.set_cons_zero, List.set_cons_succ])
          refine wpAnyH_take (i := 5) (oi := { dst := some 79, op := .build 45 #[(0, .const (.int .i64 1)), (1, .tmp 74), (2, .const (.int .u32 7)), (3, .tmp 75), (5, .tmp 78)], type := 45, pos := "law.go:28", after := #[{ on := 0, ground := .data }, { on := 1, ground := .data }, { on := 4, ground := .data }], guard := none }) (v := (.agg (ckT.cells (.slice (some ⟨w17.heap.size + 1, 0, none⟩) 2 2)).toArray)) rfl (by kernel_rfl) (by kernel_rfl) (by kernel_rfl) (fun _ _ _ h => h) (yieldsIf_build_ck (by rfl) (.const (.int .i64 1)) (.tmp 74) (.const (.int .u32 7)) (.tmp 75) (.tmp 78) rfl ckT (some ⟨w17.heap.size + 1, 0, none⟩) 2 2 rfl rfl rfl rfl rfl rfl rfl) (by assumption) ?_
          (try dsimp only)
          (try simp only [Act.put, List.setIfInBounds_toArray, List.set_cons_zero, List.set_cons_succ])
          refine wpAnyH_ready (rs := [7]) (by kernel_rfl) (by simp) ?_
          refine AllReadyH.cons (i := 7) rfl (fun K' hK => ?_) AllReadyH.nil
          rw [if_pos (by rfl)]
          refine wp_store_at 45 (.tmp 20) (.tmp 79) rfl 23 info45 _ 0 45 zeroCells (ckT.cells (.slice (some ⟨w17.heap.size + 1, 0, none⟩) 2 2)) rfl rfl hZ15.1 rfl (oneCell_ck rfl) (by rw [Ck.cells_len]; decide) ?_
          intro w18 hh18 hm18
          have hfin := fin16 hM15 hR15 hZ15 (by omega) hh18 hm18
          refine hK.out _ _ (U0.mod1 hS15 hZ15 hm18) (fun _ => ?_)
          clear hK K'
          (try simp only [Act.put, List.setIfInBounds_toArray])
          refine wpAnyH_done (by kernel_rfl) ?_ _
          go_wp2_with fail
          go_meet
          exact ⟨_, rfl, hfin⟩
  -- END 16
  case rest =>
    obtain ⟨nb, rfl, rvn, hnb, hrn, hmc⟩ := hcut
    have kr := kr17.mod hmc (by simp)
    have nr := Row.of_heap hnb
    have hl1 : (ckT.cells rv).length = 23 := by rw [Ck.cells_len]; rfl
    have hl2 : (ckT.cells rvn).length = 23 := by rw [Ck.cells_len]; rfl
    have HRFc := Lib.hid (HRF17.out.mod0 hmc)
    have HVc := Lib.hid (HV17.out.mod0 hmc)
    have HWc := Lib.hid (HW17.out.mod0 hmc)
    have oc := (o17.same hmc).1
    have HRN := Lib.hid hrn
    have HL1 := Lib.hid hl1
    have HL2 := Lib.hid hl2
    clear o17 hr17 kr17 HRF17 HV17 HW17 hmc hnb hrn hl1 hl2
    go_upto_region 17 with fail
    refine wp_region_lit ?_
    simp only [List.append_eq, List.cons_append, List.nil_append]
    go_wp2_with (first | ((with_reducible refine wpList_load_o 45 (.tmp 8) ?_ ?_ _ Try.underlying45 ?_ 23 info45 kb 0 (ckT.cells rv) ?_ kr HL1.out ?_); (· rfl); (· rfl); (· rfl); (· rfl)) | ((with_reducible refine wpList_load_o 45 (.tmp 20) ?_ ?_ _ Try.underlying45 ?_ 23 info45 nb 0 (ckT.cells rvn) ?_ nr HL2.out ?_); (· rfl); (· rfl); (· rfl); (· rfl)) | fail)
    refine (sameChunk_any wc ckT ckT rv rvn rfl rfl HRFc.out HRN.out).mono ?_
    rintro e w19 ⟨rfl, hm19⟩
    rw [decide_eq_true rfl]
    have o19 := (oc.same hm19).1
    have HV19 := Lib.hid (HVc.out.mod0 hm19)
    have HW19 := Lib.hid (HWc.out.mod0 hm19)
    clear HRFc HRN oc HVc HWc hm19 kr nr HL1 HL2
    go_wp2_with fail
    refine (same_any _ _ _ [1] [1] (HV19.out.mod0 ((Mod.refl [] w19).alloc _)) Own.one1).mono ?_
    rintro e w20 ⟨rfl, hm20'⟩
    have hm20 := ((Mod.refl [] w19).alloc _).trans_nil hm20'
    rw [decide_eq_true rfl]
    have o20 := (o19.same hm20).1
    have HW20 := Lib.hid (HW19.out.mod0 hm20)
    clear o19 HV19 HW19 hm20 hm20'
    go_wp2_with fail
    refine (same_any _ _ _ [1] [1] (HW20.out.mod0 ((Mod.refl [] w20).alloc _)) Own.one1).mono ?_
    rintro e w21 ⟨rfl, hm21'⟩
    have hm21 := ((Mod.refl [] w20).alloc _).trans_nil hm21'
    rw [decide_eq_true rfl]
    have o21 := (o20.same hm21).1
    clear o20 HW20 hm21 hm21'
    go_wp2_with fail
    refine (len_any _ tb mb lv17 [] o21.tab).mono ?_
    rintro e w22 ⟨rfl, rfl⟩
    go_wp2_with fail
    refine (encode_any _ tb mb lv17 [] o21.tab (fun c hc => by simp at hc)).mono ?_
    rintro e w23 ⟨v23, rfl, hv23, hm23, _⟩
    rw [s_enc] at hv23
    obtain ⟨a23, c23, rfl⟩ : ∃ a c, v23 = .slice a 1 c := by
      have hv : Own w23 5 1 v23 [[Value.int .u8 128]] := hv23
      rcases hv.shape with ⟨_, h⟩ | ⟨b, cap, cur, h, _⟩
      · cases h
      · exact ⟨_, _, h⟩
    have hmf := o21.mod.trans_nil hm23
    clear hv23 o21 hm23
    go_wp2_with fail
    go_ret
    exact ⟨rfl, hmf⟩

end Go.Proofs.Ytknkifanpppglaa
