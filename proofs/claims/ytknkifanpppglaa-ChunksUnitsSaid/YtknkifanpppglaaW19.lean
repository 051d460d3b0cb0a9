/- Walks: slices.Insert of one chunk. -/
import Derived.Test.YtknkifanpppglaaW18
import Derived.Lib.Overlaps
namespace Go.Proofs.Ytknkifanpppglaa
open Go.RowKit

theorem insert_rows2 {α : Type} (R : List α) (i L : Nat) (e : α) (hi : i < L) (hL : L + 1 ≤ R.length) :
    (splice (splice R (i + 1) ((R.drop i).take (L - i))) i [e]).take (L + 1) = (R.take L).take i ++ e :: (R.take L).drop i := by
  have hd : ((R.drop i).take (L - i)).length = L - i := by rw [List.length_take, List.length_drop]; omega
  have h1 : (R.take (i + 1)).length = i + 1 := by rw [List.length_take]; omega
  have h2 : splice R (i + 1) ((R.drop i).take (L - i)) = R.take (i + 1) ++ ((R.drop i).take (L - i) ++ R.drop (L + 1)) := by
    unfold splice; rw [hd, show i + 1 + (L - i) = L + 1 by omega]
  have h3 : (R.take i).length = i := by rw [List.length_take]; omega
  have h4 : splice (splice R (i + 1) ((R.drop i).take (L - i))) i [e] = R.take i ++ (e :: ((R.drop i).take (L - i) ++ R.drop (L + 1))) := by
    rw [h2]
    unfold splice
    rw [List.take_append_of_le_length (by omega), List.take_take, show min i (i + 1) = i by omega, List.length_singleton, List.drop_append, List.drop_of_length_le (by omega), h1, Nat.sub_self]
    simp
  have h5 : (R.take L).drop i = (R.drop i).take (L - i) := by rw [List.drop_take]
  rw [h4, h5, List.take_take, show min i L = i by omega]
  have e6 : R.take i ++ (e :: ((R.drop i).take (L - i) ++ R.drop (L + 1))) = (R.take i ++ e :: (R.drop i).take (L - i)) ++ R.drop (L + 1) := by simp
  rw [e6]
  exact List.take_left' (by simp only [List.length_append, List.length_cons, hd, h3]; omega)

theorem run_copy_part {P : Program} {t e size bytes : Nat} (T : STy P t e size bytes) (w : World) (ty g i dLen dCap : Nat) (x : Value) (R ns : List (List Value)) (hb : Blk w g e size R) (hx : Src w size x ns)
    (h1 : ∀ r ∈ ns.take (Nat.min ns.length dLen), ∀ u ∈ r, u.oneCell' = true) (hfit : i + Nat.min ns.length dLen ≤ R.length) :
    ∃ w', (Builtin.copy_ #[t, t] ty #[.slice (some ⟨g, i * size, none⟩) dLen dCap, x]).run P w = .ok (goInt (Nat.min ns.length dLen)) w' ∧ Blk w' g e size (splice R i (ns.take (Nat.min ns.length dLen))) ∧ Mod [g] w w' := by
  obtain ⟨inf, z, hi, hz, hs, hby, hzs⟩ := T.info
  have hlen : ((ns.take (Nat.min ns.length dLen)).length) = Nat.min ns.length dLen := by rw [List.length_take]; exact Nat.min_eq_left (Nat.min_le_left _ _)
  have hrows : ∀ r ∈ ns.take (Nat.min ns.length dLen), r.length = size := fun r hr => hx.1 r (List.mem_of_mem_take hr)
  have hfl := flatten_length hrows
  rw [hlen] at hfl
  have h1' : ∀ u ∈ (ns.take (Nat.min ns.length dLen)).flatten, u.oneCell' = true := by
    intro u hu
    obtain ⟨r, hr, hur⟩ := List.mem_flatten.1 hu
    exact h1 r hr u hur
  have hR := flatten_length hb.1
  have hfit2 : i * size + (ns.take (Nat.min ns.length dLen)).flatten.length ≤ R.flatten.length := by
    rw [hfl, hR, ← Nat.add_mul]; exact Nat.mul_le_mul_right _ hfit
  have hst := run_storeCells_at (P := P) g (i * size) e (ns.take (Nat.min ns.length dLen)).flatten 0 R.flatten.toArray w hb.2 (by simpa using hfit2) h1'
  have hlo : (Builtin.lenOf x).run P w = .ok ns.length w := by
    rcases hx.2 with ⟨c, rfl, rfl⟩ | ⟨b, off, c, rfl, _⟩ <;> simp [Builtin.lenOf]
  have hfc : (Builtin.firstCells size (Nat.min ns.length dLen) x).run P w = .ok (ns.take (Nat.min ns.length dLen)).flatten.toArray w := by
    rcases hx.2 with ⟨c, rfl, rfl⟩ | ⟨b, off, c, rfl, hr⟩
    · simp [Builtin.firstCells]
    · refine run_firstCells_some w size (Nat.min ns.length dLen) ⟨b, off, none⟩ ns.length c _ hfl (fun j v hv => ?_)
      obtain ⟨a, n', c', e1, e2⟩ := hx.take (Nat.min ns.length dLen) j v hv
      cases e1
      exact e2
  refine ⟨w.setRow g (splice R i (ns.take (Nat.min ns.length dLen))).flatten.toArray, ?_, ⟨?_, setRow_heap w g _ _ e _ hb.2⟩, (Mod.refl _ _).setRow _ _ (by simp)⟩
  · rw [← splice_flatten i hb.1 hrows]
    simp only [Builtin.copy_]
    simp [run_underlying T.u, sizeOf, typeInfo, hi, hs, hlo, hfc]
    have e1 : i * size + 0 = i * size := rfl
    simpa [splice] using congrArg (fun r => Result.andThen r (fun _ w' => Result.ok (goInt (Nat.min ns.length dLen)) w')) hst
  · intro r hr
    rcases mem_splice hr with hr | hr
    · exact hb.1 r hr
    · exact hrows r hr

theorem wpList_copy_part {P : Program} {t e size bytes : Nat} (T : STy P t e size bytes) {ops : Array Oper} {rest : List Oper} {o : Oper} {a : Act} {w : World} {Q : Exit → Act → World → Prop} (hw : Region.wanted o (yielded ops a.tmps) = true) (d s : Operand)
    (hop : o.op = .call { callee := .builtin .copy, args := #[d, s], argTypes := #[t, t] }) (g i dLen dCap : Nat) (x : Value) (hd : a.eval d = .slice (some ⟨g, i * size, none⟩) dLen dCap) (hs : a.eval s = x)
    (R ns : List (List Value)) (hb : Blk w g e size R) (hx : Src w size x ns) (h1 : ∀ r ∈ ns.take (Nat.min ns.length dLen), ∀ u ∈ r, u.oneCell' = true) (hfit : i + Nat.min ns.length dLen ≤ R.length)
    (h : ∀ w', Blk w' g e size (splice R i (ns.take (Nat.min ns.length dLen))) → Mod [g] w w' → wpList P ops Q rest (a.put o.dst (goInt (Nat.min ns.length dLen))) w') : wpList P ops Q (o :: rest) a w :=
  wpList_wanted hw fun _ hK => by
    obtain ⟨w', hr, h2, h3⟩ := run_copy_part T w o.type g i dLen dCap x R ns hb hx h1 hfit
    unfold Oper.wp execOp
    simp only [hop, resolve, invoke, builtin, Sem.run_bind, Sem.run_pure, Result.andThen_ok, List.map_toArray, List.map_cons, List.map_nil, hd, hs, hr]
    exact hK _ _ (h w' h2 h3)

theorem run_size_of {P : Program} {ty n : Nat} (h : (P.info? ty).map (·.size) = some n) : ∀ w, (sizeOf ty).run P w = .ok n w := by
  intro w
  cases hq : P.info? ty with
  | none => simp [hq] at h
  | some i =>
    have hs : i.size = n := by simpa [hq] using h
    simp [sizeOf, typeInfo, Sem.run_bind, hq, hs]

def InsOwn (v : Value) (es' : List (List Value)) (w : World) (e : Ending) (w' : World) : Prop :=
  ∃ v', e = .returned v' ∧ Own w' 45 23 v' es' ∧ Mod v.ownBlock.toList w w' ∧ FreshOr w v v'

set_option maxRecDepth 100000 in
set_option maxHeartbeats 2000000 in
theorem insertC_end (w : World) (v : Value) (i vb : Nat) (es : List (List Value)) (e : List Value) (hi : i = es.length) (hmx : es.length ≤ 65536) (hs : Own w 45 23 v es) (hv : w.heap[vb]? = some (.cells e.toArray 45 (0, 0)))
    (he : e.length = 23) (h2 : ∀ u ∈ e, u.oneCell' = true) :
    Calls Try.prog 97 #[v, .int .i64 i, .slice (some ⟨vb, 0, none⟩) 1 1] w (InsOwn v (es ++ [e]) w) := by
  have HS := Lib.hid hs
  have HV := Lib.hid hv
  have HO2 := Lib.hid h2
  have HI := Lib.hid hi
  have hsrc : Src w 23 (.slice (some ⟨vb, 0, none⟩) 1 1) [e] := Src.one he (Row.of_heap hv)
  have HSrc := Lib.hid hsrc
  rcases hs.shape with ⟨rfl, rfl⟩ | ⟨b, cap, cur, rfl, hb, hc, hm, _, _, _⟩
  · obtain rfl : i = 0 := by simpa using hi
    clear hs hv h2 hi hsrc
    go_enter Try.func97, Try.ntmps97
    go_wp2_with (at_builtin; refine wpList_append_Own sty_ck rfl (.tmp 23) (.tmp 24) rfl (.slice none 0 0) (.slice (some ⟨vb, 0, none⟩) 1 1) rfl rfl [] [e] HS.out HSrc.out (by simpa using HO2.out) (by simp [maxLen]) (by simp) ?_; intro v' w' ho hm hf)
    go_ret
    exact ⟨_, rfl, ho, hm, hf⟩
  · have hn : (i : Int) = es.length := by omega
    obtain ⟨L, hL⟩ : ∃ L, L = es.length := ⟨_, rfl⟩
    rw [← hL] at hi hc hn hmx HS ⊢
    subst hi
    have HL := Lib.hid hL
    clear hs hv h2 hsrc hL hn
    go_enter Try.func97, Try.ntmps97
    go_wp2_with (at_builtin; refine wpList_append_Own sty_ck rfl (.tmp 23) (.tmp 24) rfl (.slice (some ⟨b, 0, none⟩) _ cap) (.slice (some ⟨vb, 0, none⟩) 1 1) rfl rfl es [e] HS.out HSrc.out (by simpa using HO2.out) (by have := HL.out; simp [maxLen]; omega) (by have := HL.out; simp; omega) ?_; intro v' w' ho hm hf)
    all_goals
      go_ret
      exact ⟨_, rfl, ho, hm, hf⟩

set_option maxRecDepth 100000 in
set_option maxHeartbeats 2000000 in
theorem insertC_grow (w : World) (b L i vb : Nat) (es : List (List Value)) (e : List Value) (hL : L = es.length) (hlt : i < L) (hmx : L ≤ 65536) (hs : Src w 23 (.slice (some ⟨b, 0, none⟩) L L) es) (he : e.length = 23) (hv : Row w vb 0 e)
    (h1 : ∀ r ∈ es, ∀ u ∈ r, u.oneCell' = true) (h2 : ∀ u ∈ e, u.oneCell' = true) :
    Calls Try.prog 97 #[.slice (some ⟨b, 0, none⟩) L L, .int .i64 i, .slice (some ⟨vb, 0, none⟩) 1 1] w (InsOwn (.slice (some ⟨b, 0, none⟩) L L) (es.take i ++ e :: es.drop i) w) := by
  have HL := Lib.hid hL
  have HS := Lib.hid hs
  have HE := Lib.hid he
  have HV := Lib.hid hv
  have HO1 := Lib.hid h1
  have HO2 := Lib.hid h2
  clear hL hs he hv h1 h2
  have hiL : ¬ i = L := by omega
  have hi : i ≤ L := by omega
  have hbl : b < w.heap.size := HS.out.lt (by omega)
  have hb1 : ((i : Int) == L) = false := by simp; omega
  have hcast : ((L : Int) + 1 - i) = ((L + 1 - i : Nat) : Int) := by omega
  have HC := Lib.hid hcast
  clear hcast
  go_enter Try.func97, Try.ntmps97
  go_wp2_with (first | (refine wpList_append_zeros (zrow := zeroCells) sty_ck Try.underlying3 zrow_ck rfl (.tmp 34) (.tmp 39) rfl (.slice (some ⟨b, 0, none⟩) i L) (some ⟨b, 0, none⟩) i L (L + 1 - i) rfl rfl (int_eq HC.out) (es.take i) (by rw [List.length_take, ← HL.out]; omega) (HS.out.takeS i L (by omega)) (L + 1) (by omega) (by omega) (by omega) (by omega) (by simp [maxLen]; omega) ?_; intro w1 k hblk hm hmax; have HB := Lib.hid hblk; clear hblk; have hvb := World.lt_of_row HV.out HE.out) | (refine wpList_copy_blk sty_ck rfl (.tmp 43) (.tmp 44) rfl w.heap.size i _ _ (.slice (some ⟨vb, 0, none⟩) 1 1) rfl rfl _ [e] HB.out ((Src.one HE.out HV.out).mod hm (by simp)) (by simpa using HO2.out) (Nat.le_trans (Nat.add_le_add_left (Nat.min_le_left _ _) _) (by have := HL.out; simp; omega)) ?_; intro w2 hblk2 hm2; have HB2 := Lib.hid hblk2; clear hblk2))
  have hw5 : ¬ L = i := fun e => hiL e.symm
  have hw6 : ¬ L + 1 + k = i + 1 := by omega
  have hw1 : IntKind.i64.wrap ((i : Int) + 1) = (i : Int) + 1 := IntWalk.i64_in _ (by omega)
  have hw2 : (0 : Int) ≤ (i : Int) + 1 := by omega
  have hw3 : ((i : Int) + 1).toNat = i + 1 := by omega
  have hw4 : (i : Int) + 1 ≤ ((L : Int) + 1) := by omega
  go_still_tail 8, (by kernel_rfl)
  have hlen : (splice (es.take i ++ List.replicate (L + 1 - i + k) zeroCells) i (List.take (Nat.min [e].length (L + 1 - i)) [e])).length = L + 1 + k := by
    have := HL.out
    have e1 : Nat.min [e].length (L + 1 - i) = 1 := Nat.min_eq_left (by simp; omega)
    rw [e1, length_splice _ _ _ (by simp; omega)]; simp; omega
  go_wp2_with (refine wpList_copy_blk sty_ck rfl (.tmp 50) (.tmp 53) rfl w.heap.size (i + 1) _ _ (.slice (some ⟨b, i * 23, none⟩) (L - i) (L - i)) rfl rfl _ (es.drop i) (HB2.out.mod ((Mod.refl [] w2).drew) (by simp)) ((((by simpa using HS.out.dropS i (L - i) (by omega) : Src w 23 (.slice (some ⟨b, i * 23, none⟩) (L - i) (L - i)) (es.drop i)).mod hm (by simp)).mod hm2 (by simp [Value.ownBlock]; omega)).mod ((Mod.refl [] w2).drew) (by simp)) (fun r hr => HO1.out r (List.mem_of_mem_drop hr)) (Nat.le_trans (Nat.add_le_add_left (Nat.min_le_right _ _) _) (by rw [hlen]; omega)) ?_; intro w3 hblk3 hm3; have HB3 := Lib.hid hblk3; clear hblk3)
  go_ret
  have hb3 := HB3.out
  have e1 : Nat.min [e].length (L + 1 - i) = 1 := Nat.min_eq_left (by simp; omega)
  have e2 : Nat.min (es.drop i).length (L - i) = (es.drop i).length := Nat.min_eq_left (by rw [List.length_drop, ← HL.out]; omega)
  rw [e1, e2, List.take_of_length_le (Nat.le_refl _), show List.take 1 [e] = [e] from rfl] at hb3
  have hL := HL.out
  subst hL
  have hlen2 : (splice (splice (es.take i ++ List.replicate (es.length + 1 - i + k) zeroCells) i [e]) (i + 1) (es.drop i)).length = es.length + 1 + k := by
    have e3 : (splice (es.take i ++ List.replicate (es.length + 1 - i + k) zeroCells) i [e]).length = es.length + 1 + k := by
      rw [length_splice _ _ _ (by simp; omega)]; simp; omega
    rw [length_splice _ _ _ (by rw [e3]; simp; omega), e3]
  have hown := hb3.own (es.length + 1) (by omega) (by omega) _ (insert_rows es i k e _ hlt)
  rw [hlen2] at hown
  have hmm : Mod [] w w3 := ((hm.trans hm2 (by simp)).drew).trans hm3 (by simp)
  exact ⟨_, rfl, hown, hmm.nil, .inr ⟨w.heap.size, rfl, Nat.le_refl _⟩⟩

set_option maxRecDepth 100000 in
set_option maxHeartbeats 2000000 in
theorem insertC_in (w : World) (b L cap i vb : Nat) (es : List (List Value)) (e : List Value) (hL : L = es.length) (hlt : i < L) (hcap : L < cap) (hmx : L ≤ 65536) (hs : Own w 45 23 (.slice (some ⟨b, 0, none⟩) L cap) es) (hv : w.heap[vb]? = some (.cells e.toArray 45 (0, 0)))
    (he : e.length = 23) (h1 : ∀ r ∈ es, ∀ u ∈ r, u.oneCell' = true) (h2 : ∀ u ∈ e, u.oneCell' = true) (hne : vb ≠ b) :
    Calls Try.prog 97 #[.slice (some ⟨b, 0, none⟩) L cap, .int .i64 i, .slice (some ⟨vb, 0, none⟩) 1 1] w (InsOwn (.slice (some ⟨b, 0, none⟩) L cap) (es.take i ++ e :: es.drop i) w) := by
  obtain ⟨R, hblk, hRl, hRt, hnl, hnc, hcm⟩ := hs.blk
  have hfz := frozen_of_row w vb 0 _ _ hv
  have hfe := frozen_of_row w vb 23 _ _ hv
  have hsa : w.shape? vb = some (45, 23) := by simp [World.shape?, hv, he]
  have hsb : w.shape? b = some (45, R.flatten.length) := by simp [World.shape?, hblk.2]
  have hk0 : R.flatten.length ≠ 0 := by rw [hblk.len]; omega
  have hov : ∀ lb cb, (callFunc 124 #[.slice (some ⟨vb, 0, none⟩) 1 1, .slice (some ⟨b, (i + 1) * 23, none⟩) lb cb]).run Try.prog w = .ok (.value (.bool false)) w := fun lb cb => by
    rw [run_callFunc_extern Try.func124 (by kernel_rfl) (by kernel_rfl) (by kernel_rfl) (e := Extern.SlicesOverlaps.overlaps #[32, 32] #[4]) (by kernel_rfl),
      Lib.run_overlaps_apart w 32 4 45 Try.underlying32 23 (run_size_of info45) ⟨vb, 0, none⟩ ⟨b, (i + 1) * 23, none⟩ 1 1 lb cb hne 45 45 23 _ hsa hsb hk0 hfz hfe]
    rfl
  have HL := Lib.hid hL
  have HB := Lib.hid hblk
  have HRl := Lib.hid hRl
  have HRt := Lib.hid hRt
  have HV := Lib.hid hv
  have HO1 := Lib.hid h1
  have HO2 := Lib.hid h2
  have HS := Lib.hid hs
  have HE := Lib.hid he
  have hsrc : Src w 23 (.slice (some ⟨vb, 0, none⟩) 1 1) [e] := Src.one he (Row.of_heap hv)
  have HSrc := Lib.hid hsrc
  have hiL : ¬ i = L := by omega
  have hi : i ≤ L := by omega
  have hb1 : ((i : Int) == L) = false := by simp; omega
  have hw1 : IntKind.i64.wrap ((L : Int) + 1) = (L : Int) + 1 := IntWalk.i64_in _ (by omega)
  have hw2 : (0 : Int) ≤ (L : Int) + 1 := by omega
  have hw3 : ((L : Int) + 1).toNat = L + 1 := by omega
  have hw4 : (L : Int) + 1 ≤ (cap : Int) := by omega
  have hv1 : IntKind.i64.wrap ((i : Int) + 1) = (i : Int) + 1 := IntWalk.i64_in _ (by omega)
  have hv2 : (0 : Int) ≤ (i : Int) + 1 := by omega
  have hv3 : ((i : Int) + 1).toNat = i + 1 := by omega
  have hv4 : (i : Int) + 1 ≤ (L : Int) + 1 := by omega
  have hc1 : ¬ cap = i + 1 := by omega
  have hc2 : ¬ cap = i := by omega
  clear hL hblk hRl hRt hv h1 h2 hs he hsrc hnl hnc hfz hfe hsa hsb hk0
  go_enter Try.func97, Try.ntmps97
  have hi2 : i ≤ L + 1 := by omega
  have hi3 : (i : Int) ≤ (L : Int) + 1 := by omega
  have hns : ((R.drop i).take (L + 1 - i)).length = L + 1 - i := by have := HRl.out; rw [List.length_take, List.length_drop]; omega
  have hmin : Nat.min ((R.drop i).take (L + 1 - i)).length (L - i) = L - i := by rw [hns]; exact Nat.min_eq_right (by omega)
  have htk : ((R.drop i).take (L + 1 - i)).take (L - i) = (R.drop i).take (L - i) := by rw [List.take_take, show min (L - i) (L + 1 - i) = L - i by omega]
  have hone : ∀ r ∈ ((R.drop i).take (L + 1 - i)).take (Nat.min ((R.drop i).take (L + 1 - i)).length (L - i)), ∀ u ∈ r, u.oneCell' = true := by
    rw [hmin, htk, ← List.drop_take, HRt.out]
    exact fun r hr => HO1.out r (List.mem_of_mem_drop hr)
  have hl2 : (splice R (i + 1) ((R.drop i).take (L - i))).length = cap := by
    rw [length_splice _ _ _ (by rw [← htk, List.length_take, hns]; have := HRl.out; omega)]; exact HRl.out
  have hfit : i + Nat.min [e].length (L + 1 - i) ≤ (splice R (i + 1) ((R.drop i).take (L - i))).length := by
    rw [hl2]; exact Nat.le_trans (Nat.add_le_add_left (Nat.min_le_left _ _) _) (by simp; omega)
  have HL2 := Lib.hid hl2
  have HFit := Lib.hid hfit
  have HNs := Lib.hid hns
  have HMin := Lib.hid hmin
  have HTk := Lib.hid htk
  have HOne := Lib.hid hone
  clear hns hmin htk hone hl2 hfit
  go_wp2
  go_still_tail 8, (by kernel_rfl)
  go_wp2_with (first | (refine wpList_copy_part sty_ck rfl (.tmp 73) (.tmp 76) rfl b (i + 1) (L - i) _ (.slice (some ⟨b, i * 23, none⟩) (L + 1 - i) (cap - i)) rfl rfl R ((R.drop i).take (L + 1 - i)) (HB.out.mod ((Mod.refl [] w).drew) (by simp)) ((HB.out.mod ((Mod.refl [] w).drew) (by simp)).src i (L + 1 - i) (cap - i) _ rfl HNs.out.symm) HOne.out (by rw [HMin.out, HRl.out]; omega) ?_; intro w2 hb2 hm2; rw [HMin.out, HTk.out] at hb2; have HB2 := Lib.hid hb2; clear hb2) | (refine wpList_copy_blk sty_ck rfl (.tmp 80) (.tmp 81) rfl b i (L + 1 - i) _ (.slice (some ⟨vb, 0, none⟩) 1 1) rfl rfl _ [e] HB2.out ((HSrc.out.mod ((Mod.refl [] w).drew) (by simp)).mod hm2 (by simpa [Value.ownBlock] using hne)) (by simpa using HO2.out) HFit.out ?_; intro w3 hb3 hm3; have HB3 := Lib.hid hb3; clear hb3))
  go_ret
  have hb3 := HB3.out
  rw [show Nat.min [e].length (L + 1 - i) = 1 from Nat.min_eq_left (by simp; omega), show List.take 1 [e] = [e] from rfl] at hb3
  have hl3 : (splice (splice R (i + 1) ((R.drop i).take (L - i))) i [e]).length = cap := by
    rw [length_splice _ _ _ (by rw [HL2.out]; simp; omega)]; exact HL2.out
  have hown := hb3.own (L + 1) (by rw [hl3]; omega) (by rw [hl3]; exact hcm) _ (insert_rows2 R i L e hlt (by rw [HRl.out]; omega))
  rw [hl3, HRt.out] at hown
  exact ⟨_, rfl, hown, (((Mod.refl _ w).drew.trans hm2 (by simp [Value.ownBlock])).trans hm3 (by simp [Value.ownBlock])), .inl rfl⟩

theorem insertC_any (w : World) (v : Value) (i vb : Nat) (es : List (List Value)) (e : List Value) (hi : i ≤ es.length) (hmx : es.length ≤ 65536) (hs : Own w 45 23 v es) (hv : w.heap[vb]? = some (.cells e.toArray 45 (0, 0)))
    (he : e.length = 23) (h1 : ∀ r ∈ es, ∀ u ∈ r, u.oneCell' = true) (h2 : ∀ u ∈ e, u.oneCell' = true) (hne : ∀ b, v.ownBlock = some b → vb ≠ b) :
    Calls Try.prog 97 #[v, .int .i64 i, .slice (some ⟨vb, 0, none⟩) 1 1] w (InsOwn v (es.take i ++ e :: es.drop i) w) := by
  by_cases h : i = es.length
  · have := insertC_end w v i vb es e h hmx hs hv he h2
    rwa [h, List.take_of_length_le (Nat.le_refl _), List.drop_of_length_le (Nat.le_refl _), ← h]
  · rcases hs.shape with ⟨rfl, rfl⟩ | ⟨b, cap, cur, rfl, hb, hc, hm, _, _, _⟩
    · simp at hi h; omega
    · by_cases hcap : es.length < cap
      · exact insertC_in w b es.length cap i vb es e rfl (by omega) hcap hmx hs hv he h1 h2 (hne b rfl)
      · obtain rfl : cap = es.length := by omega
        exact insertC_grow w b es.length i vb es e rfl (by omega) hmx hs.src he (Row.of_heap hv) h1 h2

end Go.Proofs.Ytknkifanpppglaa
