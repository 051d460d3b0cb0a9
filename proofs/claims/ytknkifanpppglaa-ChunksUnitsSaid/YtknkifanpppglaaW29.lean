/- Walks: Encode. -/
import Derived.Test.YtknkifanpppglaaW28
namespace Go.Proofs.Ytknkifanpppglaa
open Go.RowKit

/-- what can be encoded: each chunk's numbers are in range -/
structure Rng (c : Ck) : Prop where
  print : 0 ≤ c.print ∧ c.print < 4294967296
  dig : ∀ x ∈ c.dig, 0 ≤ x ∧ x < 256

structure EncSt (w0 : World) (ob cb : Nat) (w : World) (v : Value) (xs : List Int) (cs : List Value) : Prop where
  out : Outv w ob v xs
  row : Row w cb 0 cs
  ne : cb ≠ ob
  nev : v.ownBlock ≠ some cb
  mod : Mod [] w0 w
  ob0 : w0.heap.size ≤ ob
  v0 : FreshN w0.heap.size v
  lt : cb < w.heap.size

theorem EncSt.same {w0 w w1 : World} {ob cb : Nat} {v : Value} {xs : List Int} {cs : List Value} (h : EncSt w0 ob cb w v xs cs) (hm : Mod [] w w1) : EncSt w0 ob cb w1 v xs cs :=
  ⟨⟨hm.heap h.out.blk (by simp), Own.mod hm h.out.bytes (by simp), h.out.ne⟩, h.row.mod hm (by simp), h.ne, h.nev, h.mod.trans_nil hm, h.ob0, h.v0, Nat.lt_of_lt_of_le h.lt hm.size⟩

def EncPost (w0 : World) (ob cb : Nat) (xs : List Int) (cs : List Value) (e : Ending) (w' : World) : Prop :=
  e = .returned (.tuple #[]) ∧ ∃ v', EncSt w0 ob cb w' v' xs cs

theorem EncSt.notin {w0 w : World} {ob cb : Nat} {v : Value} {xs : List Int} {cs : List Value} (h : EncSt w0 ob cb w v xs cs) : cb ∉ ob :: v.ownBlock.toList := by
  intro hm
  rcases List.mem_cons.1 hm with e | e
  · exact h.ne e
  · exact h.nev (by simpa using e)

theorem put_enc {w0 w : World} {ob cb : Nat} {v : Value} {xs : List Int} {cs : List Value} (h : EncSt w0 ob cb w v xs cs) (ns : List Int) (hn : ∀ x ∈ ns, 0 ≤ x ∧ x ≤ 9223372036854775807) (hl : ns.length ≤ 1000) (hx : xs.length ≤ 1000000000000) (vals : Array Value) (hv : vals = (ns.map (Value.int .i64)).toArray) (m cap : Nat) (hm : m = ns.length) (g : Nat) (hg : g = w.heap.size) :
    Calls Try.prog 71 #[.slice (some ⟨g, 0, none⟩) m cap, .pointer (some ⟨ob, 0, none⟩)] (w.alloc (.cells vals 3)) (EncPost w0 ob cb (xs ++ (ns.map intB).flatten) cs) := by
  subst hv hm hg
  have hma : Mod [] w (w.alloc (.cells (ns.map (Value.int .i64)).toArray 3)) := (Mod.refl _ _).alloc _
  have hob := lt_of_heap h.out.blk
  have hvb : ∀ b, v.ownBlock = some b → b < w.heap.size := Own.lt h.out.bytes
  refine (put_any _ ob w.heap.size v xs ns ⟨hma.heap h.out.blk (by simp), h.out.bytes.mod0 hma, h.out.ne⟩ (fun k x hk => ?_) (by omega) (fun e => by have := hvb _ e; omega) hn hl hx cap).mono ?_
  · have hr := Row.of_heap (heap_alloc_at w (.cells (ns.map (Value.int .i64)).toArray 3))
    have := hr k (.int .i64 x) (by simp [hk])
    rwa [Nat.zero_add] at this
  · rintro e w' ⟨rfl, v', ho, hm', hf⟩
    have hs := hma.size
    have hs' := hm'.size
    refine ⟨rfl, v', ho, (h.row.mod hma (by simp)).mod hm' h.notin, h.ne, hf.ne (by have := h.lt; omega) h.nev, ?_, h.ob0, ?_, by have := h.lt; omega⟩
    · refine (h.mod.trans_nil hma).trans hm' (fun x hx => .inr ?_)
      rcases List.mem_cons.1 hx with rfl | hx
      · exact h.ob0
      · exact h.v0 x (by simpa using hx)
    · exact h.v0.or hf (by have := h.mod.size; omega)

theorem EncSt.start {w wr w2 : World} {ob : Nat} {v : Value} {xs : List Int} {cs : List Value} (ho : Outv wr ob v xs) (hf : FreshN w.heap.size v) (hm : Mod [] w wr) (hm2 : Mod [] wr w2) (hr : Row w2 wr.heap.size 0 cs) (hob : w.heap.size ≤ ob) (hlt : wr.heap.size < w2.heap.size) :
    EncSt w ob wr.heap.size w2 v xs cs := by
  have h1 := lt_of_heap ho.blk
  exact ⟨⟨hm2.heap ho.blk (by simp), ho.bytes.mod0 hm2, ho.ne⟩, hr, by omega, fun e => by have := Own.lt ho.bytes _ e; omega, hm.trans_nil hm2, hob, hf, hlt⟩

def encTo (l : List Ck) (k : Nat) : List Int := intB l.length ++ ((l.take k).map ckB).flatten

theorem flat_len9 : ∀ q : List Int, ((q.map intB).flatten).length ≤ 9 * q.length := by
  intro q
  induction q with
  | nil => simp
  | cons a q ih => have := intB_len a; rw [List.map_cons, List.flatten_cons, List.length_append, List.length_cons]; omega

theorem refsB_len (r : List (Int × Int)) : (r.map refB).flatten.length ≤ 18 * r.length := by
  induction r with
  | nil => simp
  | cons a q ih =>
    have h1 := intB_len a.1
    have h2 := intB_len a.2
    have h3 : (refB a).length ≤ 18 := by unfold refB; rw [List.length_append]; omega
    rw [List.map_cons, List.flatten_cons, List.length_append, List.length_cons]
    omega

theorem posB_len (c : Ck) : (posB c).length ≤ 36 := by
  have h0 := intB_len 0
  have h1 := intB_len 1
  have h2 := intB_len c.pos.row
  have h3 := intB_len c.pos.group
  have h4 := intB_len c.pos.unit
  unfold posB
  split
  · omega
  · simp only [List.length_append]; omega

theorem ckB_len {c : Ck} (hd : c.dig.length = 16) (hr : c.refs.length ≤ 16) : (ckB c).length ≤ 400 := by
  have h1 := intB_len c.id
  have h2 := intB_len c.print
  have h3 := posB_len c
  have h4 := intB_len c.refs.length
  have h5 := refsB_len c.refs
  unfold ckB
  simp only [List.length_append]
  omega

theorem encTo_succ {l : List Ck} {k : Nat} {c : Ck} (h : l[k]? = some c) : encTo l (k + 1) = encTo l k ++ ckB c := by
  unfold encTo
  rw [take_snoc' h, List.map_append, List.flatten_append, List.append_assoc]
  simp

theorem encTo_len {l : List Ck} (hl : ∀ c ∈ l, CkOk c) (k : Nat) : (encTo l k).length ≤ 9 + 400 * k := by
  induction k with
  | zero => have := intB_len l.length; simp [encTo]; omega
  | succ k ih =>
    by_cases h : k < l.length
    · have hc := hl l[k] (List.getElem_mem h)
      rw [encTo_succ (List.getElem?_eq_getElem h), List.length_append]
      have := ckB_len hc.dig hc.len
      omega
    · have e : encTo l (k + 1) = encTo l k := by unfold encTo; rw [List.take_of_length_le (by omega), List.take_of_length_le (by omega)]
      rw [e]; omega


theorem encSt_append {w0 w w3 : World} {ob cb sn sc tn tc : Nat} {sa ta : Option Addr} {xs ns : List Int} {cs : List Value} (h : EncSt w0 ob cb w (.slice sa sn sc) xs cs)
    (ho : Own w3 5 1 (.slice ta tn tc) ((xs.map fun x => [Value.int .u8 x]) ++ (ns.map fun x => [Value.int .u8 x]))) (hm : Mod (Value.slice sa sn sc).ownBlock.toList w w3) (hf : FreshOr w (.slice sa sn sc) (.slice ta tn tc)) :
    EncSt w0 ob cb (w3.setCell ⟨ob, 0, none⟩ (.slice ta tn tc)) (.slice ta tn tc) (xs ++ ns) cs := by
  have hob : ob ∉ (Value.slice sa sn sc).ownBlock.toList := by simpa using fun e => h.out.ne e
  have hb3 := hm.heap h.out.blk hob
  have hne := hf.ne (lt_of_heap h.out.blk) h.out.ne
  have hm4 : Mod [ob] w3 (w3.setCell ⟨ob, 0, none⟩ (.slice ta tn tc)) := (Mod.refl _ _).setCell _ _ (by simp)
  have hm34 : Mod (ob :: (Value.slice sa sn sc).ownBlock.toList) w (w3.setCell ⟨ob, 0, none⟩ (.slice ta tn tc)) := (hm.mono (fun x hx => List.mem_cons_of_mem _ hx)).trans hm4 (by simp)
  have s1 := hm34.size
  refine ⟨⟨heap_setCell1 w3 ob _ _ _ hb3, ?_, hne⟩, h.row.mod hm34 h.notin, h.ne, hf.ne h.lt h.nev, ?_, h.ob0, h.v0.or hf h.mod.size, by have := h.lt; omega⟩
  · have := Own.mod hm4 ho (fun b hb => by simp; intro e; subst e; exact hne hb)
    show Own _ _ _ _ _
    rw [List.map_append]
    exact this
  · refine h.mod.trans hm34 (fun x hx => .inr ?_)
    rcases List.mem_cons.1 hx with rfl | hx
    · exact h.ob0
    · exact h.v0 x (by simpa using hx)

def EncRes (xs : List Int) (w : World) (e : Ending) (w' : World) : Prop := BytesPost xs w e w'

theorem posB_lost {c : Ck} (h : c.lost = true) : posB c = intB 1 := by simp [posB, h]
theorem posB_at {c : Ck} (h : c.lost = false) : posB c = intB 0 ++ (intB c.pos.row ++ (intB c.pos.group ++ intB c.pos.unit)) := by simp [posB, h]

theorem held_mem {r : List (Int × Int)} (h : Rising r) {x : Int × Int} (hx : x ∈ r) : heldL r x.1 = x.2 := by
  rcases part_refs h x.1 with ⟨_, h2, _⟩ | ⟨n, h1, h2, _⟩
  · exact absurd rfl (h2 x hx)
  · rw [h1]
    obtain ⟨i, hi, e1⟩ := List.getElem_of_mem hx
    obtain ⟨j, hj, e2⟩ := List.getElem_of_mem h2
    have e3 : i = j := by
      rcases Nat.lt_trichotomy i j with h3 | h3 | h3
      · have := List.pairwise_iff_getElem.1 h i j hi hj h3; rw [e1, e2] at this; simp at this
      · exact h3
      · have := List.pairwise_iff_getElem.1 h j i hj hi h3; rw [e1, e2] at this; simp at this
    subst e3
    rw [e1] at e2
    rw [e2]

theorem U3.ok_range {u : U3} (h : u.ok = true) : (0 ≤ u.row ∧ u.row < 4096) ∧ (0 ≤ u.group ∧ u.group < 64) ∧ (0 ≤ u.unit ∧ u.unit < 32) := by
  unfold U3.ok at h
  simp at h
  omega

set_option maxRecDepth 100000 in
set_option maxHeartbeats 4000000 in
theorem encode_any (w : World) (tb mb : Nat) (lv : Value) (l : List Ck) (h : Tab w tb mb lv l) (hr : ∀ c ∈ l, Rng c) :
    Calls Try.prog 38 #[.pointer (some ⟨tb, 0, none⟩)] w (BytesPost (encB l) w) := by
  obtain ⟨c0, _, hl, hinv, hs⟩ := h.open
  have htb := Go.block_lt_of_cell c0
  rcases hs with ⟨rfl, rfl⟩ | ⟨b, cap, rfl, hc, hb, hrow⟩
  · clear h hinv hr
    go_enter Try.func38, Try.ntmps38
    go_wp2_with (go_at_call 70; refine (wireInt_any 0 _ (by omega) (by omega)).mono ?_; rintro e w2 ⟨vb, rfl, hvb, hm2, hf2⟩; obtain ⟨sa, sn, sc, rfl⟩ := hvb.isSlice; have c02 := hm2.cell c0 (by simp); have ht2 : tb < w2.heap.size := Go.block_lt_of_cell c02)
    refine wp_loop_rounds 1 ?_
    rw [rounds_succ]
    go_wp2
    go_ret
    refine ⟨_, rfl, ?_, hm2.alloc _, hf2⟩
    have := hvb.mod0 ((Mod.refl [] w2).alloc (.cells #[.slice sa sn sc] 70))
    simpa [encB] using this
  · have HR := Lib.hid hrow
    have HRng := Lib.hid hr
    have HInv := Lib.hid hinv
    have hT : Tab w tb mb (.slice (some ⟨b, 0, none⟩) l.length cap) l := h
    have HT := Lib.hid hT
    clear hrow hr hinv h hT
    go_enter Try.func38, Try.ntmps38
    go_wp2_with (go_at_call 70; refine (wireInt_any l.length _ (by omega) (by omega)).mono ?_; rintro e w2 ⟨vb, rfl, hvb, hm2, hf2⟩; obtain ⟨sa, sn, sc, rfl⟩ := hvb.isSlice; have c02 := hm2.cell c0 (by simp); have ht2 : tb < w2.heap.size := Go.block_lt_of_cell c02)
    obtain ⟨ob, hob⟩ : ∃ ob, w2.heap.size = ob := ⟨_, rfl⟩
    obtain ⟨W, hW⟩ : ∃ W, w2.alloc (.cells #[.slice sa sn sc] 70) = W := ⟨_, rfl⟩
    have hmW : Mod [] w W := by rw [← hW]; exact hm2.alloc _
    have hout : Outv W ob (.slice sa sn sc) (encTo l 0) := by
      rw [← hW, ← hob]
      refine ⟨heap_alloc_at _ _, ?_, ?_⟩
      · have := hvb.mod0 ((Mod.refl [] w2).alloc (.cells #[.slice sa sn sc] 70))
        simpa [encTo] using this
      · intro e
        have := Own.lt hvb _ e
        omega
    have hobw : w.heap.size ≤ ob := by have := hm2.size; omega
    rw [hW, hob]
    have HOut := Lib.hid hout
    clear hW hob hvb hm2 c02 ht2 hout
    go_loopw [21] (fun s21 wr => ∃ k : Nat, k ≤ l.length ∧ s21 = .int .i64 k ∧ Hid (∃ v, Outv wr ob v (encTo l k) ∧ FreshN w.heap.size v) ∧ Mod [] w wr) (fun s21 _ => l.length - (intOf s21).toNat)
    case atStart => exact ⟨0, by omega, rfl, Lib.hid ⟨_, HOut.out, hf2⟩, hmW⟩
    case round =>
      obtain ⟨k, hk, rfl, HS, hm⟩ := hrel
      by_cases hlt : k < l.length
      · obtain ⟨c, hx⟩ : ∃ c, l[k]? = some c := ⟨_, List.getElem?_eq_getElem hlt⟩
        obtain ⟨rv, hrw, hrf, hd, hok⟩ := HR.out k c hx
        have hrng := HRng.out c (List.mem_of_getElem? hx)
        have hrw1 := hrw.mod hm (by simp)
        have hrf1 := hrf.one
        obtain ⟨v, hov, hfv⟩ := HS.out
        obtain ⟨sa, sn, sc, rfl⟩ := hov.bytes.isSlice
        have hel := encTo_len HInv.out.each k
        have HX := Lib.hid hx
        have HRF1 := Lib.hid hrf1
        have HRF := Lib.hid hrf
        have HD := Lib.hid hd
        have HOk := Lib.hid hok
        have HOv := Lib.hid hov
        have HFv := Lib.hid hfv
        have HEl := Lib.hid hel
        clear hx hrw hrf hrf1 hd hok hov hfv hel
        have hrl := HOk.out.len
        have hid1 := HOk.out.id1
        have hid2 := HOk.out.id2
        have hp0 := hrng.print.1
        have hp1 := hrng.print.2
        have b1 := intB_len c.id
        have b2 := intB_len c.print
        have b3 := intB_len 1
        have b4 := intB_len 0
        have b5 := intB_len c.pos.row
        have b6 := intB_len c.pos.group
        have b7 := intB_len c.pos.unit
        have b8 := intB_len c.refs.length
        have hel := HEl.out
        obtain ⟨a', cap', rfl⟩ := Refs.sliceLen HRF.out
        generalize hrv : (Value.slice a' c.refs.length cap') = rv at *
        have HRV := Lib.hid hrv
        clear hrv
        go_wp2_with (first | (refine wpList_load_at rfl 45 (.tmp 23) rfl _ Try.underlying45 rfl 23 info45 b (k * 23) (c.cells rv) rfl hrw1 (by rw [Ck.cells_len, HD.out]) ?_) | (refine wpList_store_at rfl 45 (.tmp 6) (.tmp 24) rfl 23 info45 wr.heap.size 0 45 zeroCells (c.cells rv) rfl rfl (heap_alloc_at _ _) (by rw [Ck.cells_len, HD.out]) (oneCell_ck HRF1.out) (by simp [zeroCells, Ck.cells_len, HD.out]) ?_; intro w2 hhw2 hsw2; have hmw2 := ((Mod.refl [] wr).alloc (.cells zeroCells.toArray 45)).trans hsw2 (by simp); rw [splice_all _ _ (by simp [zeroCells, Ck.cells_len, HD.out])] at hhw2; have roww2 := Row.of_heap hhw2; have HHw2 := Lib.hid hhw2; clear hhw2; have d0 : w2.cell? ⟨wr.heap.size, 0, none⟩ = some (.int .i64 c.id) := roww2 0 _ rfl) | fail)
        have e0 : EncSt w ob wr.heap.size w2 (.slice sa sn sc) (encTo l k) (c.cells rv) := EncSt.start HOv.out HFv.out hm hmw2 roww2 hobw (lt_of_heap HHw2.out)
        with_reducible refine (put_enc e0 [c.id] (by intro x hx; simp at hx; subst hx; omega) (by simp) (by omega) #[.int .i64 c.id] rfl 1 1 rfl _ (by first | rfl | simp)).mono ?_
        rintro e w3 ⟨rfl, v3, e1⟩
        obtain ⟨sa3, sn3, sc3, rfl⟩ := e1.out.bytes.isSlice
        have g0 : w3.cell? ⟨ob, 0, none⟩ = some (.slice sa3 sn3 sc3) := by rw [cell_of_row _ _ _ _ _ _ e1.out.blk]; rfl
        have hdl : (c.dig.map fun x => [Value.int .u8 x]).length = 16 := by simp [HD.out]
        have hxl := encTo_len HInv.out.each k
        have hsrc : Src (w3.drew) 1 (.slice (some ⟨wr.heap.size, 1, none⟩) 16 16) (c.dig.map fun x => [Value.int .u8 x]) := by
          refine ⟨by simp, .inr ⟨wr.heap.size, 1, 16, by rw [hdl], ?_⟩⟩
          have hf : (c.dig.map fun x => [Value.int .u8 x]).flatten = c.dig.map (Value.int .u8) := by
            generalize c.dig = q
            induction q with
            | nil => rfl
            | cons a q ih => simp only [List.map_cons, List.flatten_cons, ih]; rfl
          rw [hf]
          exact Row.mod ((Mod.refl [] w3).drew) (Ck.digRow e1.row) (by simp)
        have hA : ((encTo l k ++ ([c.id].map intB).flatten).map fun x => [Value.int .u8 x]).length + (c.dig.map fun x => [Value.int .u8 x]).length ≤ 100000000 := by
          rw [hdl, List.length_map, List.length_append]
          simp only [List.map_cons, List.map_nil, List.flatten_cons, List.flatten_nil, List.append_nil]
          omega
        have HA := Lib.hid hA
        have e1d : EncSt w ob wr.heap.size w3.drew (.slice sa3 sn3 sc3) (encTo l k ++ ([c.id].map intB).flatten) (c.cells rv) := e1.same ((Mod.refl [] w3).drew)
        clear hA
        have HSrc := Lib.hid hsrc
        clear hdl hsrc
        go_wp2_with fail
        go_still_tail 3, (by kernel_rfl)
        go_wp2_with (at_builtin; go_must (refine wpList_append_Own sty_byte rfl (.tmp 30) (.tmp 32) rfl (.slice sa3 sn3 sc3) (.slice (some ⟨wr.heap.size, 1, none⟩) 16 16) rfl rfl _ _ (Bytes.mod0 ((Mod.refl [] w3).drew) e1.out.bytes) HSrc.out (oneCell_bytes _) (by have := HA.out; simp only [maxLen]; omega) (by have := HA.out; omega) ?_); intro v' w4 hown4 hm4 hfr4; obtain ⟨ta, tn, tc, rfl⟩ := Own.isSlice hown4; have hb4 := hm4.heap (((Mod.refl [] w3).drew).heap e1.out.blk (by simp)) (by simpa using fun e => e1.out.ne e); have fz4 := free_of_one hb4; have ct4 : w4.cell? ⟨ob, 0, none⟩ = some (.slice sa3 sn3 sc3) := (by rw [cell_of_row _ _ _ _ _ _ hb4]; rfl); have HB4 := Lib.hid hb4; clear hb4; have e2 := encSt_append e1d hown4 hm4 hfr4; have q17 : (w4.setCell ⟨ob, 0, none⟩ (.slice ta tn tc)).cell? ⟨wr.heap.size, 17, none⟩ = some (.int .u32 c.print) := e2.row 17 _ (Ck.c17 HD.out rv))
        obtain ⟨X2, hX2⟩ : ∃ X2, X2 = encTo l k ++ ([c.id].map intB).flatten ++ c.dig := ⟨_, rfl⟩
        have hX2l : X2.length ≤ 100000000 := by
          have := HA.out
          rw [List.length_map, List.length_map] at this
          rw [hX2, List.length_append]; exact this
        rw [← hX2] at e2
        with_reducible refine (put_enc e2 [c.print] (by intro x hx; simp at hx; subst hx; omega) (by simp) (by omega) #[.int .i64 c.print] rfl 1 1 rfl _ (by first | rfl | simp)).mono ?_
        rintro e w5 ⟨rfl, v5, e3⟩
        have q21 : w5.cell? ⟨wr.heap.size, 21, none⟩ = some (.bool c.lost) := e3.row 21 _ (Ck.c21 HD.out rv)
        have HX2 := Lib.hid hX2
        clear hX2 q17 g0 fz4 ct4
        obtain ⟨X3, hX3⟩ : ∃ X3, X3 = X2 ++ ([c.print].map intB).flatten := ⟨_, rfl⟩
        have hX3l : X3.length ≤ 100000009 := by
          rw [hX3, List.length_append]
          simp only [List.map_cons, List.map_nil, List.flatten_cons, List.flatten_nil, List.append_nil]
          omega
        rw [← hX3] at e3
        have HX3 := Lib.hid hX3
        clear hX3
        cases hlo : c.lost with
        | true =>
          rw [hlo] at q21
          have HLo := Lib.hid hlo
          clear hlo
          go_wp2_with fail
          with_reducible refine (put_enc e3 [1] (by simp) (by simp) (by omega) #[.int .i64 1] rfl 1 1 rfl _ (by first | rfl | simp)).mono ?_
          rintro e w6 ⟨rfl, v6, e4'⟩
          have hpb : ([1].map intB).flatten = posB c := by simp [posB_lost HLo.out]
          rw [hpb] at e4'
          clear hpb
          obtain ⟨X4, hX4⟩ : ∃ X4, X4 = X3 ++ posB c := ⟨_, rfl⟩
          have hX4l : X4.length ≤ 100000100 := by
            have := posB_len c
            rw [hX4, List.length_append]
            omega
          have e4 : EncSt w ob wr.heap.size w6 v6 X4 (c.cells rv) := by rw [hX4]; exact e4'
          have HX4 := Lib.hid hX4
          clear hX4 e4'
          have q22 : w6.cell? ⟨wr.heap.size, 22, none⟩ = some (.slice a' c.refs.length cap') := by rw [HRV.out]; exact e4.row 22 _ (Ck.c22 HD.out rv)
          go_wp2_with fail
          with_reducible refine (put_enc e4 [(c.refs.length : Int)] (by intro x hx; simp at hx; omega) (by simp) (by omega) #[.int .i64 c.refs.length] rfl 1 1 rfl _ (by first | rfl | simp)).mono ?_
          rintro e w7 ⟨rfl, v7, e5'⟩
          obtain ⟨X5, hX5⟩ : ∃ X5, X5 = X4 ++ ([(c.refs.length : Int)].map intB).flatten := ⟨_, rfl⟩
          have hX5l : X5.length ≤ 100000109 := by
            rw [hX5, List.length_append]
            simp only [List.map_cons, List.map_nil, List.flatten_cons, List.flatten_nil, List.append_nil]
            omega
          have e5 : EncSt w ob wr.heap.size w7 v7 X5 (c.cells rv) := by rw [hX5]; exact e5'
          have HX5 := Lib.hid hX5
          clear hX5 e5'
          have r22 : w7.cell? ⟨wr.heap.size, 22, none⟩ = some (.slice a' c.refs.length cap') := by rw [HRV.out]; exact e5.row 22 _ (Ck.c22 HD.out rv)
          have hrfs : Refs w (.slice a' c.refs.length cap') c.refs := by rw [HRV.out]; exact HRF.out
          have HRfs := Lib.hid hrfs
          clear hrfs
          go_wp2_with fail
          obtain ⟨wo, hwo⟩ : ∃ wo : World, wo = wr := ⟨_, rfl⟩
          obtain ⟨cb, hcb⟩ : ∃ cb, wr.heap.size = cb := ⟨_, rfl⟩
          rw [hcb]
          rw [hcb] at e5
          go_loopw [68] (fun s68 wq => ∃ q : Nat, q ≤ c.refs.length ∧ s68 = .int .i64 q ∧ Hid (∃ v, EncSt w ob cb wq v (X5 ++ ((c.refs.take q).map refB).flatten) (c.cells rv))) (fun s68 _ => c.refs.length - (intOf s68).toNat)
          case atStart => exact ⟨0, by omega, rfl, Lib.hid ⟨v7, by simpa using e5⟩⟩
          case round =>
            obtain ⟨q, hq, rfl, HQ⟩ := hrel
            obtain ⟨vq, eq⟩ := HQ.out
            by_cases hlq : q < c.refs.length
            · obtain ⟨x, hxq⟩ : ∃ x, c.refs[q]? = some x := ⟨_, List.getElem?_eq_getElem hlq⟩
              obtain ⟨br, rfl, hrr⟩ := HRfs.out.cell hxq
              have hrr1 := hrr.mod eq.mod (by simp)
              have hxr := HOk.out.ref1 x (List.mem_of_getElem? hxq)
              have hxt : x.2 ≤ 2147483647 := by
                have h1 := held_bounds (fun y hy => (HOk.out.ref1 y hy).2.2) x.1
                have h2 := HOk.out.tot
                have h3 := held_mem HOk.out.refs (List.mem_of_getElem? hxq)
                unfold most at h2
                omega
              have hx0 := hxr.1
              have hx1 := hxr.2.1
              have hx2 := hxr.2.2
              have htk : (c.refs.take (q + 1)).map refB = (c.refs.take q).map refB ++ [refB x] := by rw [take_snoc' hxq, List.map_append]; rfl
              have hXq : (X5 ++ ((c.refs.take q).map refB).flatten).length ≤ 100001000 := by
                have h1 := refsB_len (c.refs.take q)
                have h2 := List.length_take_le q c.refs
                rw [List.length_append]
                omega
              have HXq := Lib.hid hXq
              have HTk := Lib.hid htk
              clear hxq hrr htk hXq hxr
              go_wp2_with (first | (refine wpList_load_at rfl 113 (.tmp 70) rfl _ Try.underlying113 rfl 2 infoRef br (q * 2) [.int .i64 x.1, .int .i64 x.2] rfl hrr1 rfl ?_) | fail)
              with_reducible refine (put_enc (eq.same ((Mod.refl [] _).alloc _)) [x.1, x.2] (by intro y hy; simp at hy; omega) (by simp) (by have := HXq.out; omega) #[.int .i64 x.1, .int .i64 x.2] rfl 2 2 rfl _ (by first | rfl | simp)).mono ?_
              rintro e w8 ⟨rfl, v8, e6⟩
              go_wp2_with fail
              go_roundw
              case rel =>
                refine ⟨q + 1, by omega, by go_num, Lib.hid ⟨v8, ?_⟩⟩
                rw [HTk.out, List.flatten_append, ← List.append_assoc]
                simpa [refB] using e6
              case measure => simp [intOf]; omega
            · obtain rfl : q = c.refs.length := by omega
              go_wp2
              go_roundw
              case rel =>
                refine ⟨k + 1, by omega, by go_num, Lib.hid ⟨vq, ?_, eq.v0⟩, eq.mod⟩
                have h1 := eq.out
                rw [List.take_of_length_le (Nat.le_refl _)] at h1
                have h2 : X5 ++ (c.refs.map refB).flatten = encTo l (k + 1) := by
                  rw [encTo_succ HX.out, HX5.out, HX4.out, HX3.out, HX2.out]
                  simp [ckB]
                rw [← h2]
                exact h1
              case measure => simp [intOf]; omega
        | false =>
          rw [hlo] at q21
          have hu := U3.ok_range (HOk.out.pos hlo)
          have q18 : w5.cell? ⟨wr.heap.size, 18, none⟩ = some (.int .i64 c.pos.row) := e3.row 18 _ (Ck.c18 HD.out rv)
          have q19 : w5.cell? ⟨wr.heap.size, 19, none⟩ = some (.int .i64 c.pos.group) := e3.row 19 _ (Ck.c19 HD.out rv)
          have q20 : w5.cell? ⟨wr.heap.size, 20, none⟩ = some (.int .i64 c.pos.unit) := e3.row 20 _ (Ck.c20 HD.out rv)
          have HLo := Lib.hid hlo
          clear hlo
          go_wp2_with fail
          with_reducible refine (put_enc e3 [0, c.pos.row, c.pos.group, c.pos.unit] (by intro y hy; simp at hy; omega) (by simp) (by omega) #[.int .i64 0, .int .i64 c.pos.row, .int .i64 c.pos.group, .int .i64 c.pos.unit] rfl 4 4 rfl _ (by first | rfl | simp)).mono ?_
          rintro e w6 ⟨rfl, v6, e4'⟩
          have hpb : ([0, c.pos.row, c.pos.group, c.pos.unit].map intB).flatten = posB c := by simp [posB_at HLo.out]
          rw [hpb] at e4'
          clear hpb
          obtain ⟨X4, hX4⟩ : ∃ X4, X4 = X3 ++ posB c := ⟨_, rfl⟩
          have hX4l : X4.length ≤ 100000100 := by
            have := posB_len c
            rw [hX4, List.length_append]
            omega
          have e4 : EncSt w ob wr.heap.size w6 v6 X4 (c.cells rv) := by rw [hX4]; exact e4'
          have HX4 := Lib.hid hX4
          clear hX4 e4'
          have q22 : w6.cell? ⟨wr.heap.size, 22, none⟩ = some (.slice a' c.refs.length cap') := by rw [HRV.out]; exact e4.row 22 _ (Ck.c22 HD.out rv)
          go_wp2_with fail
          with_reducible refine (put_enc e4 [(c.refs.length : Int)] (by intro x hx; simp at hx; omega) (by simp) (by omega) #[.int .i64 c.refs.length] rfl 1 1 rfl _ (by first | rfl | simp)).mono ?_
          rintro e w7 ⟨rfl, v7, e5'⟩
          obtain ⟨X5, hX5⟩ : ∃ X5, X5 = X4 ++ ([(c.refs.length : Int)].map intB).flatten := ⟨_, rfl⟩
          have hX5l : X5.length ≤ 100000109 := by
            rw [hX5, List.length_append]
            simp only [List.map_cons, List.map_nil, List.flatten_cons, List.flatten_nil, List.append_nil]
            omega
          have e5 : EncSt w ob wr.heap.size w7 v7 X5 (c.cells rv) := by rw [hX5]; exact e5'
          have HX5 := Lib.hid hX5
          clear hX5 e5'
          have r22 : w7.cell? ⟨wr.heap.size, 22, none⟩ = some (.slice a' c.refs.length cap') := by rw [HRV.out]; exact e5.row 22 _ (Ck.c22 HD.out rv)
          have hrfs : Refs w (.slice a' c.refs.length cap') c.refs := by rw [HRV.out]; exact HRF.out
          have HRfs := Lib.hid hrfs
          clear hrfs
          go_wp2_with fail
          obtain ⟨wo, hwo⟩ : ∃ wo : World, wo = wr := ⟨_, rfl⟩
          obtain ⟨cb, hcb⟩ : ∃ cb, wr.heap.size = cb := ⟨_, rfl⟩
          rw [hcb]
          rw [hcb] at e5
          go_loopw [68] (fun s68 wq => ∃ q : Nat, q ≤ c.refs.length ∧ s68 = .int .i64 q ∧ Hid (∃ v, EncSt w ob cb wq v (X5 ++ ((c.refs.take q).map refB).flatten) (c.cells rv))) (fun s68 _ => c.refs.length - (intOf s68).toNat)
          case atStart => exact ⟨0, by omega, rfl, Lib.hid ⟨v7, by simpa using e5⟩⟩
          case round =>
            obtain ⟨q, hq, rfl, HQ⟩ := hrel
            obtain ⟨vq, eq⟩ := HQ.out
            by_cases hlq : q < c.refs.length
            · obtain ⟨x, hxq⟩ : ∃ x, c.refs[q]? = some x := ⟨_, List.getElem?_eq_getElem hlq⟩
              obtain ⟨br, rfl, hrr⟩ := HRfs.out.cell hxq
              have hrr1 := hrr.mod eq.mod (by simp)
              have hxr := HOk.out.ref1 x (List.mem_of_getElem? hxq)
              have hxt : x.2 ≤ 2147483647 := by
                have h1 := held_bounds (fun y hy => (HOk.out.ref1 y hy).2.2) x.1
                have h2 := HOk.out.tot
                have h3 := held_mem HOk.out.refs (List.mem_of_getElem? hxq)
                unfold most at h2
                omega
              have hx0 := hxr.1
              have hx1 := hxr.2.1
              have hx2 := hxr.2.2
              have htk : (c.refs.take (q + 1)).map refB = (c.refs.take q).map refB ++ [refB x] := by rw [take_snoc' hxq, List.map_append]; rfl
              have hXq : (X5 ++ ((c.refs.take q).map refB).flatten).length ≤ 100001000 := by
                have h1 := refsB_len (c.refs.take q)
                have h2 := List.length_take_le q c.refs
                rw [List.length_append]
                omega
              have HXq := Lib.hid hXq
              have HTk := Lib.hid htk
              clear hxq hrr htk hXq hxr
              go_wp2_with (first | (refine wpList_load_at rfl 113 (.tmp 70) rfl _ Try.underlying113 rfl 2 infoRef br (q * 2) [.int .i64 x.1, .int .i64 x.2] rfl hrr1 rfl ?_) | fail)
              with_reducible refine (put_enc (eq.same ((Mod.refl [] _).alloc _)) [x.1, x.2] (by intro y hy; simp at hy; omega) (by simp) (by have := HXq.out; omega) #[.int .i64 x.1, .int .i64 x.2] rfl 2 2 rfl _ (by first | rfl | simp)).mono ?_
              rintro e w8 ⟨rfl, v8, e6⟩
              go_wp2_with fail
              go_roundw
              case rel =>
                refine ⟨q + 1, by omega, by go_num, Lib.hid ⟨v8, ?_⟩⟩
                rw [HTk.out, List.flatten_append, ← List.append_assoc]
                simpa [refB] using e6
              case measure => simp [intOf]; omega
            · obtain rfl : q = c.refs.length := by omega
              go_wp2
              go_roundw
              case rel =>
                refine ⟨k + 1, by omega, by go_num, Lib.hid ⟨vq, ?_, eq.v0⟩, eq.mod⟩
                have h1 := eq.out
                rw [List.take_of_length_le (Nat.le_refl _)] at h1
                have h2 : X5 ++ (c.refs.map refB).flatten = encTo l (k + 1) := by
                  rw [encTo_succ HX.out, HX5.out, HX4.out, HX3.out, HX2.out]
                  simp [ckB]
                rw [← h2]
                exact h1
              case measure => simp [intOf]; omega
      · obtain rfl : k = l.length := by omega
        obtain ⟨v, hov, hfv⟩ := HS.out
        obtain ⟨sa, sn, sc, rfl⟩ := hov.bytes.isSlice
        have g0 : wr.cell? ⟨ob, 0, none⟩ = some (.slice sa sn sc) := by rw [cell_of_row _ _ _ _ _ _ hov.blk]; rfl
        have HOv := Lib.hid hov
        clear hov
        go_wp2
        go_ret
        refine ⟨_, rfl, ?_, hm, hfv⟩
        have h1 := HOv.out.bytes
        have h2 : encTo l l.length = encB l := by unfold encTo encB; rw [List.take_of_length_le (Nat.le_refl _)]
        rw [← h2]
        exact h1

end Go.Proofs.Ytknkifanpppglaa
