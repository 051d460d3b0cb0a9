/- Walks: the law's do: one operation on the program's table. -/
import Derived.Test.YtknkifanpppglaaW25
import Derived.Test.YtknkifanpppglaaOps
import Derived.Deep.RegionHeld3
namespace Go.Proofs.Ytknkifanpppglaa
open Go.RowKit

def Opn.cells (o : Opn) : List Value := [.int .i64 o.kind, .int .i64 o.id, .int .i64 o.tenant, .int .i64 o.n, .int .i64 o.pos.row, .int .i64 o.pos.group, .int .i64 o.pos.unit, .int .u8 o.d, .int .u32 o.print]
def Opn.val (o : Opn) : Value := .agg #[.int .i64 o.kind, .int .i64 o.id, .int .i64 o.tenant, .int .i64 o.n, .int .i64 o.pos.row, .int .i64 o.pos.group, .int .i64 o.pos.unit, .int .u8 o.d, .int .u32 o.print]

theorem TabPost.start {tb mb : Nat} {lv : Value} {l' : List Ck} {v : Value} {w w1 : World} {e : Ending} {w' : World} (h : TabPost tb mb lv l' v w1 e w') (hm : Mod [] w w1) : TabPost tb mb lv l' v w e w' := by
  obtain ⟨lv', h1, h2, h3, h4⟩ := h
  refine ⟨lv', h1, h2, hm.nil.trans h3 (fun x hx => .inl hx), ?_⟩
  rcases h4 with h4 | ⟨g, h4, h5⟩
  · exact .inl h4
  · exact .inr ⟨g, h4, by have := hm.size; omega⟩

theorem Tab.fresh {w : World} {tb mb : Nat} {lv : Value} {l : List Ck} (h : Tab w tb mb lv l) {x : Nat} (hx : w.heap.size ≤ x) : x ∉ foot tb mb lv := by
  obtain ⟨p1, p2, p3, p4, p5, p6⟩ := h.parts
  intro hm
  simp only [foot, List.mem_cons, Option.mem_toList] at hm
  rcases hm with rfl | rfl | hm
  · omega
  · omega
  · have := p6 x hm; omega

def DoPost (tb mb : Nat) (lv : Value) (l : List Ck) (o : Opn) (w : World) (e : Ending) (w' : World) : Prop :=
  TabPost tb mb lv (opL l o).1 (.tuple #[.int .i64 (opL l o).2.1, .int .i64 (opL l o).2.2]) w e w'

set_option maxRecDepth 100000 in
set_option maxHeartbeats 1000000 in
theorem do_add (w : World) (tb mb : Nat) (lv : Value) (l : List Ck) (o : Opn) (h : Tab w tb mb lv l) (hk : o.kind = 1) :
    Calls Try.prog 30 #[.pointer (some ⟨tb, 0, none⟩), o.val] w (DoPost tb mb lv l o w) := by
  have HT := Lib.hid h
  have hnf := h.fresh (Nat.le_refl _)
  have HNF := Lib.hid hnf
  clear hnf
  have e1 : opL l o = addL l (digOf o.d) o.print o.pos o.tenant := by simp [opL, hk]
  unfold DoPost
  rw [e1]
  obtain ⟨kind, id, tenant, n, pos, d, print⟩ := o
  simp only at hk
  subst hk
  unfold Opn.val
  clear h e1
  go_enter Try.func30, Try.ntmps30
  go_wp2
  obtain ⟨w1, hw1⟩ : ∃ w1, w1 = w.alloc (.cells #[.int .i64 1, .int .i64 id, .int .i64 tenant, .int .i64 n, .int .i64 pos.row, .int .i64 pos.group, .int .i64 pos.unit, .int .u8 d, .int .u32 print] 37) := ⟨_, rfl⟩
  have hm1 : Mod [] w w1 := by rw [hw1]; exact (Mod.refl _ _).alloc _
  have hr : Row w1 w.heap.size 0 [.int .i64 1, .int .i64 id, .int .i64 tenant, .int .i64 n, .int .i64 pos.row, .int .i64 pos.group, .int .i64 pos.unit, .int .u8 d, .int .u32 print] := by rw [hw1]; exact Row.of_heap (heap_alloc_at w _)
  have c2 := hr.at 2 _ rfl
  have c4 := hr.at 4 _ rfl
  have c5 := hr.at 5 _ rfl
  have c6 := hr.at 6 _ rfl
  have c7 := hr.at 7 _ rfl
  have c8 := hr.at 8 _ rfl
  rw [Nat.zero_add] at c2 c4 c5 c6 c7 c8
  rw [← hw1]
  clear hw1 hr
  go_region_held3 (fun w' => w'.cell? ⟨w.heap.size, 2, none⟩ = some (.int .i64 tenant) ∧ w'.cell? ⟨w.heap.size, 4, none⟩ = some (.int .i64 pos.row) ∧ w'.cell? ⟨w.heap.size, 5, none⟩ = some (.int .i64 pos.group) ∧ w'.cell? ⟨w.heap.size, 6, none⟩ = some (.int .i64 pos.unit) ∧ w'.cell? ⟨w.heap.size, 7, none⟩ = some (.int .u8 d) ∧ w'.cell? ⟨w.heap.size, 8, none⟩ = some (.int .u32 print))
    (first | exact ⟨c2, c4, c5, c6, c7, c8⟩ | exact ⟨hmd.cell c2 (by simp), hmd.cell c4 (by simp), hmd.cell c5 (by simp), hmd.cell c6 (by simp), hmd.cell c7 (by simp), hmd.cell c8 (by simp)⟩ | exact ⟨hm3.cell (hmd.cell c2 (by simp)) HNF.out, hm3.cell (hmd.cell c4 (by simp)) HNF.out, hm3.cell (hmd.cell c5 (by simp)) HNF.out, hm3.cell (hmd.cell c6 (by simp)) HNF.out, hm3.cell (hmd.cell c7 (by simp)) HNF.out, hm3.cell (hmd.cell c8 (by simp)) HNF.out⟩)
    (first | (go_at_call 25; refine (digest_any d _).mono ?_; rintro e w2 ⟨rfl, hmd⟩) | (go_at_call 51; refine (add_any w2 tb mb lv l (digOf d) print pos tenant (by simp [digOf]) (HT.out.mod0 (hm1.trans_nil ((((Mod.refl [] w1).drew).trans_nil hmd))))).mono ?_; rintro e w3 ⟨lv', rfl, hT3, hm3, ho3⟩))
  go_wp2
  go_ret2
  exact TabPost.start ⟨lv', rfl, hT3, hm3, ho3⟩ (hm1.trans_nil (((Mod.refl [] w1).drew).trans_nil hmd))


set_option maxRecDepth 100000 in
set_option maxHeartbeats 1000000 in
theorem do_refer (w : World) (tb mb : Nat) (lv : Value) (l : List Ck) (o : Opn) (h : Tab w tb mb lv l) (hk : o.kind = 2) :
    Calls Try.prog 30 #[.pointer (some ⟨tb, 0, none⟩), o.val] w (DoPost tb mb lv l o w) := by
  have HT := Lib.hid h
  have e1 : opL l o = ((referL l o.id o.tenant o.n).1, 0, (referL l o.id o.tenant o.n).2) := by simp [opL, hk]
  unfold DoPost
  rw [e1]
  obtain ⟨kind, id, tenant, n, pos, d, print⟩ := o
  simp only at hk
  subst hk
  unfold Opn.val
  clear h e1
  go_enter Try.func30, Try.ntmps30
  go_wp2_with (go_at_call 52; refine (refer_any _ tb mb lv l id tenant n (HT.out.mod0 ((Mod.refl _ _).alloc _))).mono ?_; rintro e w3 ⟨lv', rfl, hT3, hm3, ho3⟩)
  go_ret2
  exact TabPost.start ⟨lv', rfl, hT3, hm3, ho3⟩ ((Mod.refl _ _).alloc _)

set_option maxRecDepth 100000 in
set_option maxHeartbeats 1000000 in
theorem do_unrefer (w : World) (tb mb : Nat) (lv : Value) (l : List Ck) (o : Opn) (h : Tab w tb mb lv l) (hk : o.kind = 3) :
    Calls Try.prog 30 #[.pointer (some ⟨tb, 0, none⟩), o.val] w (DoPost tb mb lv l o w) := by
  have HT := Lib.hid h
  have e1 : opL l o = ((unreferL l o.id o.tenant o.n).1, (if (unreferL l o.id o.tenant o.n).2.1 then 1 else 0), (unreferL l o.id o.tenant o.n).2.2) := by simp [opL, hk]
  unfold DoPost
  rw [e1]
  obtain ⟨kind, id, tenant, n, pos, d, print⟩ := o
  simp only at hk
  subst hk
  unfold Opn.val
  simp only
  cases hu : (unreferL l id tenant n).2.1
  all_goals
    have HU := Lib.hid hu
    simp only [Bool.false_eq_true, if_true, if_false]
    clear h e1 hu
    go_enter Try.func30, Try.ntmps30
    go_wp2_with (go_at_call 53; refine (unrefer_any _ tb mb lv l id tenant n (HT.out.mod0 ((Mod.refl _ _).alloc _))).mono ?_; rintro e w3 ⟨lv', rfl, hT3, hm3, ho3⟩; rw [HU.out])
    go_ret2
    exact TabPost.start ⟨lv', rfl, hT3, hm3, ho3⟩ ((Mod.refl _ _).alloc _)

set_option maxRecDepth 100000 in
set_option maxHeartbeats 1000000 in
theorem do_move (w : World) (tb mb : Nat) (lv : Value) (l : List Ck) (o : Opn) (h : Tab w tb mb lv l) (hk : o.kind = 4) :
    Calls Try.prog 30 #[.pointer (some ⟨tb, 0, none⟩), o.val] w (DoPost tb mb lv l o w) := by
  have HT := Lib.hid h
  have e1 : opL l o = ((moveL l o.id o.pos).1, 0, (moveL l o.id o.pos).2) := by simp [opL, hk]
  unfold DoPost
  rw [e1]
  obtain ⟨kind, id, tenant, n, pos, d, print⟩ := o
  simp only at hk
  subst hk
  unfold Opn.val
  clear h e1
  go_enter Try.func30, Try.ntmps30
  go_wp2_with (go_at_call 35; refine (move_any _ tb mb lv l id pos (HT.out.mod0 ((Mod.refl _ _).alloc _))).mono ?_; rintro e w3 ⟨lv', rfl, hT3, hm3, ho3⟩)
  go_ret2
  exact TabPost.start ⟨lv', rfl, hT3, hm3, ho3⟩ ((Mod.refl _ _).alloc _)

set_option maxRecDepth 100000 in
set_option maxHeartbeats 1000000 in
theorem do_lose (w : World) (tb mb : Nat) (lv : Value) (l : List Ck) (o : Opn) (h : Tab w tb mb lv l) (hk : o.kind = 5) :
    Calls Try.prog 30 #[.pointer (some ⟨tb, 0, none⟩), o.val] w (DoPost tb mb lv l o w) := by
  have HT := Lib.hid h
  have e1 : opL l o = ((loseL l o.id).1, 0, (loseL l o.id).2) := by simp [opL, hk]
  unfold DoPost
  rw [e1]
  obtain ⟨kind, id, tenant, n, pos, d, print⟩ := o
  simp only at hk
  subst hk
  unfold Opn.val
  clear h e1
  go_enter Try.func30, Try.ntmps30
  go_wp2_with (go_at_call 34; refine (lose_any _ tb mb lv l id (HT.out.mod0 ((Mod.refl _ _).alloc _))).mono ?_; rintro e w3 ⟨lv', rfl, hT3, hm3, ho3⟩)
  go_ret2
  exact TabPost.start ⟨lv', rfl, hT3, hm3, ho3⟩ ((Mod.refl _ _).alloc _)

set_option maxRecDepth 100000 in
set_option maxHeartbeats 1000000 in
theorem do_none (w : World) (tb mb : Nat) (lv : Value) (l : List Ck) (o : Opn) (h : Tab w tb mb lv l) (h1 : ¬ o.kind = 1) (h2 : ¬ o.kind = 2) (h3 : ¬ o.kind = 3) (h4 : ¬ o.kind = 4) (h5 : ¬ o.kind = 5) :
    Calls Try.prog 30 #[.pointer (some ⟨tb, 0, none⟩), o.val] w (DoPost tb mb lv l o w) := by
  have HT := Lib.hid h
  have e1 : opL l o = (l, 0, 0) := by simp [opL, h1, h2, h3, h4, h5]
  unfold DoPost
  rw [e1]
  obtain ⟨kind, id, tenant, n, pos, d, print⟩ := o
  simp only at h1 h2 h3 h4 h5
  have k1 : (kind == 1) = false := by simpa using h1
  have k2 : (kind == 2) = false := by simpa using h2
  have k3 : (kind == 3) = false := by simpa using h3
  have k4 : (kind == 4) = false := by simpa using h4
  have k5 : (kind == 5) = false := by simpa using h5
  unfold Opn.val
  clear h e1 h1 h2 h3 h4 h5
  go_enter Try.func30, Try.ntmps30
  go_wp2
  go_ret2
  exact ⟨lv, rfl, HT.out.mod0 ((Mod.refl _ _).alloc _), ((Mod.refl _ _).alloc _).nil, .inl rfl⟩

theorem do_any (w : World) (tb mb : Nat) (lv : Value) (l : List Ck) (o : Opn) (h : Tab w tb mb lv l) :
    Calls Try.prog 30 #[.pointer (some ⟨tb, 0, none⟩), o.val] w (DoPost tb mb lv l o w) := by
  by_cases h1 : o.kind = 1
  · exact do_add w tb mb lv l o h h1
  by_cases h2 : o.kind = 2
  · exact do_refer w tb mb lv l o h h2
  by_cases h3 : o.kind = 3
  · exact do_unrefer w tb mb lv l o h h3
  by_cases h4 : o.kind = 4
  · exact do_move w tb mb lv l o h h4
  by_cases h5 : o.kind = 5
  · exact do_lose w tb mb lv l o h h5
  exact do_none w tb mb lv l o h h1 h2 h3 h4 h5

end Go.Proofs.Ytknkifanpppglaa
