/- The words behind one piece more. -/
import Derived.Test.YtfohemgfiidokaaGreatDoorSc
import Derived.BigQuiet
namespace Go.Proofs.YtfohemgfiidokaaGreatDoor
open Go.RowKit Go.Sort
attribute [local go_sem ↓] Go.wp_at_zero Go.wp_at_succ

theorem run_index_ints {P : Program} (t e : TypeId) (q : IntKind) (n : Nat) (bs : List Int) (i : Int) (ht : P.underlying t = some (.array n e)) (he : P.underlying e = some (.int q)) (hsz : ∀ w, (sizeOf e).run P w = .ok 1 w) (hl : bs.length = n)
    (h0 : 0 ≤ i) (h1 : i < n) (w : World) : (Instr.index t (.agg (bs.map (Value.int q)).toArray) (.int .i64 i)).run P w = .ok (.int q (bs[i.toNat]?.getD 0)) w := by
  have hi : i.toNat < bs.length := by omega
  simp [Instr.index, run_underlying ht, asIntOf, h0, h1, part, isAgg, run_underlying he, hsz, List.getElem?_eq_getElem hi]
theorem info146 (n : Nat) (h : n = 8) : (Tryz.prog.info? 146).map (·.size) = some n := by rw [h]; kernel_rfl
/-- the table stands -/
def KTab (w : World) : Prop := ∃ t fr, w.heap[0]? = some (.cells (kTab.map (Value.int .u32)).toArray t fr)
theorem KTab.lt {w : World} (h : KTab w) : 0 < w.heap.size := by
  obtain ⟨t, fr, h⟩ := h
  by_cases hlt : 0 < w.heap.size
  · exact hlt
  · rw [Array.getElem?_eq_none (by omega)] at h; cases h
theorem KTab.below {B : Nat} {w w' : World} (h : KTab w) (hb : Below B w w') (hB : 0 < B) : KTab w' := by
  obtain ⟨t, fr, h⟩ := h
  exact ⟨t, fr, by rw [hb.block _ hB]; exact h⟩
theorem KTab.call {w w' : World} (h : KTab w) (hb : Below w.heap.size w w') : KTab w' := h.below hb h.lt
theorem u_words : Tryz.prog.underlying 146 = some (.array 8 144) := by kernel_rfl
theorem u_uint32 : Tryz.prog.underlying 144 = some (.int .u32) := by kernel_rfl
theorem u_arr64 : Tryz.prog.underlying 161 = some (.array 64 144) := by kernel_rfl
/-- a part of two rows is added -/
def addP (a b : List Int) (t : Nat) : List Int := (addW a b).take t ++ a.drop t
theorem addP_len (a b : List Int) (t : Nat) (h : a.length = b.length) (ht : t ≤ a.length) : (addP a b t).length = a.length := by simp [addP, addW, h]; omega
theorem addP_get (a b : List Int) (t : Nat) (h : a.length = b.length) (ht : t < a.length) : (addP a b t)[t]?.getD 0 = a[t]?.getD 0 := by
  unfold addP
  rw [List.getElem?_append_right (by simp [addW, h]; omega)]
  simp [addW, List.length_take, h]
  rw [Nat.min_eq_left (by omega)]; simp
theorem addP_set (a b : List Int) (t : Nat) (h : a.length = b.length) (ht : t < a.length) : (addP a b t).set t (IntKind.u32.wrap (a[t]?.getD 0 + b[t]?.getD 0)) = addP a b (t + 1) := by
  unfold addP
  have hl : ((addW a b).take t).length = t := by simp [addW, h]; omega
  rw [List.set_append, if_neg (by omega), hl, Nat.sub_self, List.drop_eq_getElem_cons ht, List.set_cons_zero, List.take_add_one, List.append_assoc]
  congr 1
  have hb : t < b.length := by omega
  simp [addW, List.getElem?_zipWith, ht, hb]

set_option maxRecDepth 100000 in
set_option maxHeartbeats 8000000 in
theorem with_c (b o : Nat) (hs ps : List Int) (w : World) (hh : hs.length = 8) (hw : Wds hs) (hl : ps.length = 64) (hp : Bytes ps) (hr : w.rangeAt b o (ps.map (Value.int .u8))) (hb : b < w.heap.size) (hk : KTab w) :
    Calls Tryz.prog 111 #[.agg (hs.map (Value.int .u32)).toArray, .pointer (some ⟨b, o, none⟩)] w fun e w' => e = .returned (.agg ((comp hs ps).map (Value.int .u32)).toArray) ∧ Below w.heap.size w w' := by
  have hW0 := of_wd hh hw
  have h1 : RowT 146 .u32 w.heap.size hs ((w.alloc (.cells (hs.map (Value.int .u32)).toArray 146)).alloc (.cells ((List.replicate 8 0).map (Value.int .u32)).toArray 146)) := (RowT.new _ _ _ _).alloc _
  have h2 : RowT 146 .u32 (w.heap.size + 1) (List.replicate 8 0) ((w.alloc (.cells (hs.map (Value.int .u32)).toArray 146)).alloc (.cells ((List.replicate 8 0).map (Value.int .u32)).toArray 146)) := by
    have := RowT.new 146 .u32 (w.alloc (.cells (hs.map (Value.int .u32)).toArray 146)) (List.replicate 8 0)
    rwa [show (w.alloc (.cells (hs.map (Value.int .u32)).toArray 146)).heap.size = w.heap.size + 1 by simp] at this
  have h3 : Below w.heap.size w ((w.alloc (.cells (hs.map (Value.int .u32)).toArray 146)).alloc (.cells ((List.replicate 8 0).map (Value.int .u32)).toArray 146)) := bel_alloc (bel_alloc (Below.refl _ _) _) _
  go_enter Tryz.func111, Tryz.ntmps111
  go_wp2_with fail
  refine wp_gen (fun W => RowT 146 .u32 w.heap.size hs W ∧ RowT 146 .u32 (w.heap.size + 1) (List.replicate 8 0) W ∧ Below w.heap.size w W) ⟨h1, h2, h3⟩ ?_
  clear h1 h2 h3
  rintro W ⟨h1, h2, h3⟩
  have hs1 : W.rangeAt b o (ps.map (Value.int .u8)) := fun j v hv => by rw [h3.cell (p := ⟨b, o + j, none⟩) hb]; exact hr j v hv
  have hk1 := hk.below h3 hk.lt
  have hbW : b < W.heap.size := by have := h3.size; omega
  have c0 := h1.cell 0 (by omega); have c1 := h1.cell 1 (by omega); have c2 := h1.cell 2 (by omega); have c3 := h1.cell 3 (by omega)
  have c4 := h1.cell 4 (by omega); have c5 := h1.cell 5 (by omega); have c6 := h1.cell 6 (by omega); have c7 := h1.cell 7 (by omega)
  have hof : St8.of hs = ⟨hs[0]?.getD 0, hs[1]?.getD 0, hs[2]?.getD 0, hs[3]?.getD 0, hs[4]?.getD 0, hs[5]?.getD 0, hs[6]?.getD 0, hs[7]?.getD 0⟩ := rfl
  generalize hs[0]?.getD 0 = x0 at *
  generalize hs[1]?.getD 0 = x1 at *
  generalize hs[2]?.getD 0 = x2 at *
  generalize hs[3]?.getD 0 = x3 at *
  generalize hs[4]?.getD 0 = x4 at *
  generalize hs[5]?.getD 0 = x5 at *
  generalize hs[6]?.getD 0 = x6 at *
  generalize hs[7]?.getD 0 = x7 at *
  go_quiet (fail)
  clear c0 c1 c2 c3 c4 c5 c6 c7
  obtain ⟨W64, hW64⟩ : ∃ l, sch ps 64 = l := ⟨_, rfl⟩
  have hWl : W64.length = 64 := by rw [← hW64, sch_len]
  have hcl : ∀ V, V.rangeAt b o (ps.map (Value.int .u8)) → b < V.heap.size → Calls Tryz.prog 112 #[.pointer (some ⟨b, o, none⟩)] V fun e w' => e = .returned (.agg (W64.map (Value.int .u32)).toArray) ∧ Below V.heap.size V w' := fun V ha hb => hW64 ▸ schedule_c b o ps V hl hp ha hb
  have hk2 : KTab (W.drewN nq) := hk1
  have h12 : RowT 146 .u32 w.heap.size hs (W.drewN nq) := h1
  have h22 : RowT 146 .u32 (w.heap.size + 1) (List.replicate 8 0) (W.drewN nq) := h2
  have h32 : Below w.heap.size w (W.drewN nq) := bel_call h3 (below_drewN W nq)
  have hs2 : (W.drewN nq).rangeAt b o (ps.map (Value.int .u8)) := hs1
  have hbW2 : b < (W.drewN nq).heap.size := hbW
  have HW := Lib.hid hW64; have HC := Lib.hid hcl; have HS2 := Lib.hid hs2
  clear h1 h2 h3 hs1 hbW hk1 hW64 hcl hs2 hr hp
  generalize W.drewN nq = V at *
  have hi := info161 (W64.map (Value.int .u32)).toArray.size (by simp [hWl])
  have hsz : (W64.map (Value.int .u32)).toArray.size = 64 := by simp [hWl]
  have HI := Lib.hid hi
  have HZ := Lib.hid hsz
  have HO := Lib.hid (oneCell_map .u32 (W64))
  have HL := Lib.hid hWl
  clear hi hsz hWl
  go_upto_region 3 with (first | (go_at_call 112; (with_reducible refine (HC.out _ HS2.out hbW2).mono ?_); rintro e w2 ⟨rfl, hb2⟩) | (refine wpList_store_row rfl 161 _ _ rfl _ rfl _ rfl 161 _ (heap_alloc_new _ _) HI.out (HZ.out.symm) HO.out ?_))
  have g1 : RowT 146 .u32 w.heap.size hs ((w2.alloc (.cells ((List.replicate 64 0).map (Value.int .u32)).toArray 161)).setRow w2.heap.size (W64.map (Value.int .u32)).toArray) := by
    have := h12.lt; have := hb2.size
    exact ((h12.call hb2).alloc _).setRow_other (by omega) _
  have g2 : RowT 146 .u32 (w.heap.size + 1) (List.replicate 8 0) ((w2.alloc (.cells ((List.replicate 64 0).map (Value.int .u32)).toArray 161)).setRow w2.heap.size (W64.map (Value.int .u32)).toArray) := by
    have := h22.lt; have := hb2.size
    exact ((h22.call hb2).alloc _).setRow_other (by omega) _
  have g3 : RowT 161 .u32 w2.heap.size W64 ((w2.alloc (.cells ((List.replicate 64 0).map (Value.int .u32)).toArray 161)).setRow w2.heap.size (W64.map (Value.int .u32)).toArray) :=
    setRow_heap _ _ _ _ 161 _ (heap_alloc_new _ _)
  have hbel : Below w.heap.size w w2 := bel_call h32 hb2
  have g4 : Below w.heap.size w ((w2.alloc (.cells ((List.replicate 64 0).map (Value.int .u32)).toArray 161)).setRow w2.heap.size (W64.map (Value.int .u32)).toArray) := by
    have := hbel.size
    exact below_setRow (bel_alloc hbel _) (by omega) (by simp) _
  refine wp_gen (fun U => RowT 146 .u32 w.heap.size hs U ∧ RowT 146 .u32 (w.heap.size + 1) (List.replicate 8 0) U ∧ RowT 161 .u32 w2.heap.size W64 U ∧ Below w.heap.size w U) ⟨g1, g2, g3, g4⟩ ?_
  have hne : w.heap.size + 1 < w2.heap.size := by have := h22.lt; have := hb2.size; omega
  clear g1 g2 g3 g4 hbel hb2 h12 h22 h32 hk2 hbW2 HS2 HC HI HO HZ
  generalize w2.heap.size = S at *
  rintro U ⟨g1, g2, g3, g4⟩
  obtain ⟨kt, hkt⟩ : ∃ l, kTab = l := ⟨_, rfl⟩
  have hkl : kt.length = 64 := by rw [← hkt]; rfl
  obtain ⟨tt, fr, hk⟩ := hk.below g4 hk.lt
  rw [hkt] at hk
  have HKT := Lib.hid hkt
  have hi := info161 (kt.map (Value.int .u32)).toArray.size (by simp [hkl])
  have HI := Lib.hid hi
  have HKL := Lib.hid hkl
  clear hkl hkt hi
  go_wp2_with (refine wpList_load_row rfl 161 _ rfl _ rfl tt _ fr _ hk Tryz.underlying161 rfl HI.out ?_)
  go_loopw [39, 5, 6, 7, 8, 9, 10, 11, 12] (fun i v5 v6 v7 v8 v9 v10 v11 v12 wr => ∃ (t : Nat) (s : St8), t ≤ 64 ∧ i = .int .i64 t ∧ s = rnds ps (St8.of hs) t ∧ v5 = .int .u32 s.a ∧ v6 = .int .u32 s.b ∧ v7 = .int .u32 s.c ∧ v8 = .int .u32 s.d ∧ v9 = .int .u32 s.e ∧ v10 = .int .u32 s.f ∧ v11 = .int .u32 s.g ∧ v12 = .int .u32 s.h ∧ RowT 146 .u32 w.heap.size hs wr ∧ RowT 146 .u32 (w.heap.size + 1) (List.replicate 8 0) wr ∧ RowT 161 .u32 S W64 wr ∧ Below w.heap.size w wr) (fun i _ _ _ _ _ _ _ _ _ => 64 - (intOf i).toNat)
  case atStart => exact ⟨0, _, by omega, rfl, rfl, by simp only [rnds, hof], by simp only [rnds, hof], by simp only [rnds, hof], by simp only [rnds, hof], by simp only [rnds, hof], by simp only [rnds, hof], by simp only [rnds, hof], by simp only [rnds, hof], g1, g2, g3, g4⟩
  case round =>
    clear g1 g2 g3 g4 hk HI hof
    obtain ⟨t, s, ht, rfl, hs8, rfl, rfl, rfl, rfl, rfl, rfl, rfl, rfl, hR1, hR2, hR3, hB⟩ := hrel
    by_cases hlt : t < 64
    · have hwd : s.Wd := by rw [hs8]; exact rnds_wd _ hW0 _
      have hix := fun w => run_index_ints (P := Tryz.prog) 161 144 .u32 64 kt t u_arr64 u_uint32 (fun _ => by simp [go_sem]) HKL.out (by omega) (by omega) w
      have hc := hR3.cell t (by rw [HL.out]; exact hlt)
      have hnx : rnds ps (St8.of hs) (t + 1) = rnd s (kt[t]?.getD 0) (W64[t]?.getD 0) := by rw [hs8, ← HKT.out, ← HW.out]; rfl
      rw [show ((t : Int).toNat) = t by omega] at hix
      generalize kt[t]?.getD 0 = k at *
      generalize W64[t]?.getD 0 = wt at *
      have HNX := Lib.hid hnx
      have HR1 := Lib.hid hR1; have HR2 := Lib.hid hR2; have HR3 := Lib.hid hR3; have HB := Lib.hid hB
      clear hnx hs8 hR1 hR2 hR3 hB
      have i0 : (0 : Int) ≤ (t : Int) := by omega
      have j0 : (t : Int) < 64 := by omega
      go_wp2_with fail
      go_quiet (first
        | (go_at_call 113; (with_reducible refine (right6_c _ _).mono ?_); rintro e w3 ⟨rfl, rfl⟩; exact ⟨rfl, _, rfl⟩)
        | (go_at_call 113; (with_reducible refine (right11_c _ _).mono ?_); rintro e w3 ⟨rfl, rfl⟩; exact ⟨rfl, _, rfl⟩)
        | (go_at_call 113; (with_reducible refine (right25_c _ _).mono ?_); rintro e w3 ⟨rfl, rfl⟩; exact ⟨rfl, _, rfl⟩))
      go_wp2_with (first
        | (go_at_call 113; (with_reducible refine (right2_c _ _).mono ?_); rintro e w3 ⟨rfl, rfl⟩)
        | (go_at_call 113; (with_reducible refine (right13_c _ _).mono ?_); rintro e w3 ⟨rfl, rfl⟩)
        | (go_at_call 113; (with_reducible refine (right22_c _ _).mono ?_); rintro e w3 ⟨rfl, rfl⟩))
      refine ⟨⟨t + 1, rnd s k wt, by omega, by go_num, HNX.out.symm, ?_, rfl, rfl, rfl, ?_, rfl, rfl, rfl, HR1.out, HR2.out, HR3.out, bel_call HB.out (below_drewN _ _)⟩, by simp [intOf]; omega⟩
      · simp only [rnd, one8, two8, bigS0, bigS1, chF, majF, IntKind.wrap_u32, Value.int.injEq, true_and]; omega
      · simp only [rnd, one8, two8, bigS0, bigS1, chF, majF, IntKind.wrap_u32, Value.int.injEq, true_and]; omega
    · obtain rfl : t = 64 := by omega
      have hsl : s = rnds ps (St8.of hs) 64 := hs8
      have hcomp : comp hs ps = addW hs s.l := by rw [hsl]; rfl
      have HCM := Lib.hid hcomp
      have hsl8 : s.l.length = 8 := rfl
      have hix : ∀ (j : Nat), j < 8 → ∀ V, (Instr.index 146 (.agg #[.int .u32 s.a, .int .u32 s.b, .int .u32 s.c, .int .u32 s.d, .int .u32 s.e, .int .u32 s.f, .int .u32 s.g, .int .u32 s.h]) (.int .i64 j)).run Tryz.prog V = .ok (.int .u32 (s.l[j]?.getD 0)) V := fun j hj V =>
        run_index_ints (P := Tryz.prog) 146 144 .u32 8 s.l j u_words u_uint32 (fun _ => by simp [go_sem]) hsl8 (by omega) (by omega) V
      have h0 : RowT 146 .u32 w.heap.size (addP hs s.l 0) wr := hR1
      clear hs8 hsl hcomp
      go_wp2_with fail
      go_loopw [107] (fun i wr => ∃ t : Nat, t ≤ 8 ∧ i = .int .i64 t ∧ RowT 146 .u32 w.heap.size (addP hs s.l t) wr ∧ RowT 146 .u32 (w.heap.size + 1) (List.replicate 8 0) wr ∧ Below w.heap.size w wr) (fun i _ => 8 - (intOf i).toNat)
      case atStart => exact ⟨0, by omega, rfl, h0, hR2, hB⟩
      case round =>
        clear h0 hR1 hR2 hR3 hB
        obtain ⟨t, ht, rfl, hR1, hR2, hB⟩ := hrel
        by_cases hlt : t < 8
        · have hix1 := hix t hlt
          clear hix
          have c1 : wr.cell? ⟨w.heap.size, t, none⟩ = some (.int .u32 (hs[t]?.getD 0)) := by
            have := hR1.cell t (by rw [addP_len _ _ _ (hh.trans hsl8.symm) (by omega)]; omega)
            rwa [addP_get _ _ _ (hh.trans hsl8.symm) (by omega)] at this
          have f1 := hR1.frozen t
          have hset := hR1.set t (IntKind.u32.wrap (hs[t]?.getD 0 + s.l[t]?.getD 0))
          rw [addP_set _ _ _ (hh.trans hsl8.symm) (by omega)] at hset
          have hset2 := hR2.set_other (by omega) (b := w.heap.size) (o := t) (.int .u32 (IntKind.u32.wrap (hs[t]?.getD 0 + s.l[t]?.getD 0)))
          have hB2 := hB.setCell (p := ⟨w.heap.size, t, none⟩) (Nat.le_refl _) (.int .u32 (IntKind.u32.wrap (hs[t]?.getD 0 + s.l[t]?.getD 0)))
          rw [IntKind.wrap_u32] at hset hset2 hB2
          generalize hs[t]?.getD 0 = y1 at *
          generalize s.l[t]?.getD 0 = y2 at *
          have HS := Lib.hid hset; have HS2 := Lib.hid hset2; have HB := Lib.hid hB2
          clear hset hset2 hB2 hR1 hR2 hB
          have i0 : (0 : Int) ≤ (t : Int) := by omega
          have j0 : (t : Int) < 8 := by omega
          go_wp2_with fail
          exact ⟨⟨t + 1, by omega, by go_num, HS.out, HS2.out, HB.out⟩, by simp [intOf]; omega⟩
        · obtain rfl : t = 8 := by omega
          rw [show addP hs s.l 8 = comp hs ps by rw [HCM.out]; unfold addP; rw [List.drop_of_length_le (by omega), List.append_nil, List.take_of_length_le (by simp [addW]; omega)]] at hR1
          have hcl := comp_len hs ps hh
          clear hix
          obtain ⟨cs, hcs⟩ : ∃ cs, comp hs ps = cs := ⟨_, rfl⟩
          rw [hcs] at hR1 hcl
          have HCS := Lib.hid hcs
          clear hcs
          have hR1' : wr.heap[w.heap.size]? = some (.cells (cs.map (Value.int .u32)).toArray 146 (0, 0)) := hR1
          have hR2' : wr.heap[w.heap.size + 1]? = some (.cells ((List.replicate 8 0).map (Value.int .u32)).toArray 146 (0, 0)) := hR2
          have HI := Lib.hid (info146 (cs.map (Value.int .u32)).toArray.size (by simp [hcl]))
          have HZ := Lib.hid (show ((List.replicate 8 (0 : Int)).map (Value.int .u32)).toArray.size = (cs.map (Value.int .u32)).toArray.size by simp [hcl])
          have HO := Lib.hid (oneCell_map .u32 cs)
          go_wp2_with (first | (refine wpList_load_row rfl 146 _ rfl _ rfl 146 _ _ _ hR1' u_words rfl HI.out ?_) | (refine wpList_store_row rfl 146 _ _ rfl _ rfl _ rfl 146 _ hR2' HI.out HZ.out HO.out ?_))
          have hlt2 := hR2.lt
          have hBf : Below w.heap.size w (wr.setRow (w.heap.size + 1) (cs.map (Value.int .u32)).toArray) := below_setRow hB (by omega) hR2.lt _
          exact bodyPost_ret (v := .agg (cs.map (Value.int .u32)).toArray) (results_cell_row rfl _ _ _ 146 _ _ _ rfl (setRow_heap wr _ _ _ 146 _ hR2') u_words rfl HI.out) rfl ⟨by rw [HCS.out], hBf⟩
end Go.Proofs.YtfohemgfiidokaaGreatDoor
