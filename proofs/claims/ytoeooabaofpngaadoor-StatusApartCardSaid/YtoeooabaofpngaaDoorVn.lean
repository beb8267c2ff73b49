/- The walk of StatusApart. -/
import Derived.Test.YtoeooabaofpngaaDoorVl
namespace Go.Proofs.YtoeooabaofpngaaDoor
open Go.RowKit Go.Sort
attribute [local go_sem ↓] Go.wp_at_zero Go.wp_at_succ

set_option maxRecDepth 100000 in
set_option maxHeartbeats 8000000 in
theorem apart_t (v1 : Value) (l : List En) (v2 : Value) (m : List En) (w : World) (h1 : RdE w v1 l) (ol : EnsOk l) (hm1 : l.length ≤ maxLen) (h2 : RdE w v2 m) (om : EnsOk m) (hm2 : m.length ≤ maxLen) (hk : KTab w) (hp : PTab w) :
    Calls Tryd.prog 4 #[v1, v2] w fun e w' => e = .returned (.bool true) ∧ Below w.heap.size w w' := by
  obtain ⟨p1, cap1, rfl⟩ := h1.form
  obtain ⟨p2, cap2, rfl⟩ := h2.form
  unfold maxLen at hm1 hm2
  by_cases hbig1 : 60 < l.length
  · have kw := works_c w hk hp
    go_enter Tryd.func4, Tryd.ntmps4
    go_wp2_with (go_at_call 6; (with_reducible refine kw.mono ?_); rintro e w2 ⟨rfl, hb2⟩)
    go_ret
    exact ⟨rfl, hb2⟩
  by_cases hbig2 : 60 < m.length
  · have kw := works_c w hk hp
    go_enter Tryd.func4, Tryd.ntmps4
    go_wp2_with (go_at_call 6; (with_reducible refine kw.mono ?_); rintro e w2 ⟨rfl, hb2⟩)
    go_ret
    exact ⟨rfl, hb2⟩
  have hl60 : l.length ≤ 60 := by omega
  have hm60 : m.length ≤ 60 := by omega
  obtain ⟨r, hr⟩ : ∃ r : Bool, r = true ↔ l = m := by
    by_cases h : l = m
    · exact ⟨true, by simp [h]⟩
    · exact ⟨false, by simp [h]⟩
  have H1 := Lib.hid h1; have H2 := Lib.hid h2; have O1 := Lib.hid ol; have O2 := Lib.hid om; have HR := Lib.hid hr
  have KT1 := Lib.hid (fun W v (h : RdE W v l) => tx_c v l W h ol (by omega))
  have KT2 := Lib.hid (fun W v (h : RdE W v m) => tx_c v m W h om (by omega))
  have KO1 := Lib.hid (fun W v (h : RdE W v l) (hb : Below w.heap.size w W) => of_c v l W h ol (by omega) (hk.call hb) (hp.call hb))
  have KO2 := Lib.hid (fun W v (h : RdE W v m) (hb : Below w.heap.size w W) => of_c v m W h om (by omega) (hk.call hb) (hp.call hb))
  have KW := Lib.hid (fun W (hb : Below w.heap.size w W) => works_c W (hk.call hb) (hp.call hb))
  have HTX := Lib.hid (tx_beq l m ol om r hr)
  have t1l := txF_len l ol
  have t2l := txF_len m om
  have HX1 := Lib.hid (fun W => str_bytes W (txF l) (txF_bytes l ol))
  have HX2 := Lib.hid (fun W => str_bytes W (txF m) (txF_bytes m om))
  have KS1 := Lib.hid (fun v W (h : RdB W v (txF l)) => rsum_c v _ W h (txF_bytes l ol) (by omega))
  have KS2 := Lib.hid (fun v W (h : RdB W v (txF m)) => rsum_c v _ W h (txF_bytes m om) (by omega))
  have HO0 := Lib.hid (fun h => of_beq0 l m h r hr)
  have HO1 := Lib.hid (fun a b => of_beq l m a b)
  have hst : ((l.length : Int) == (m.length : Int)) = smB l m 0 := by rw [smB_zero, Bool.eq_iff_iff, beq_iff_eq, decide_eq_true_iff]; omega
  have hl1 := shaF_len (txF l)
  have hl2 := shaF_len (txF m)
  have hnn : (l ≠ [] ↔ ¬ l.length = 0) ∧ (m ≠ [] ↔ ¬ m.length = 0) := ⟨by rw [Ne, ← List.length_eq_zero_iff], by rw [Ne, ← List.length_eq_zero_iff]⟩
  have HNN := Lib.hid hnn
  generalize strOfNums (ofF l) = so1 at *
  generalize strOfNums (ofF m) = so2 at *
  generalize shaF (txF l) = ss1 at *
  generalize shaF (txF m) = ss2 at *
  generalize txF l = tx1 at *
  generalize txF m = tx2 at *
  have HEQ := Lib.hid (fun W => run_eql_ints (P := Tryd.prog) (t := 27) (e := 5) (q := .u8) (n := 32) (w := W) u_hash Tryd.underlying5 Tryd.sizeOf5 ss1 ss2 hl1 hl2)
  have I1 := Lib.hid (info27 (ss1.map (Value.int .u8)).toArray.size (by simpa using hl1)); have I2 := Lib.hid (info27 (ss2.map (Value.int .u8)).toArray.size (by simpa using hl2))
  have hi1 := info27 (ss1.map (Value.int .u8)).length (by simpa using hl1); have hi2 := info27 (ss2.map (Value.int .u8)).length (by simpa using hl2)
  have E1 := Lib.hid (oneCell_map .u8 ss1); have E2 := Lib.hid (oneCell_map .u8 ss2)
  have L1 := Lib.hid hl1; have L2 := Lib.hid hl2
  have hu := u_hash
  clear h1 h2 ol om hk hp hr t1l t2l hl1 hl2 hbig1 hbig2 hnn
  go_enter Tryd.func4, Tryd.ntmps4
  go_wp2_with fail
  go_loopw [5, 6] (fun s c wr => ∃ k : Nat, k ≤ l.length ∧ c = .int .i64 k ∧ s = .bool (smB l m k) ∧ Below w.heap.size w wr) (fun _ c _ => l.length - (intOf c).toNat)
  case atStart => exact ⟨0, by omega, rfl, rfl, Below.refl _ _⟩
  case round =>
    clear hst
    obtain ⟨k, hk', rfl, rfl, hB⟩ := hrel
    by_cases hgo : k < l.length ∧ smB l m k = true
    · obtain ⟨hlt, hsm⟩ := hgo
      obtain ⟨x, hx⟩ : ∃ x, l[k]? = some x := ⟨_, List.getElem?_eq_getElem hlt⟩
      obtain ⟨y, hy⟩ : ∃ y, m[k]? = some y := ⟨_, List.getElem?_eq_getElem (by have := ((smB_true l m k).1 hsm).1; omega)⟩
      have ox : x.Ok := O1.out x (List.mem_of_getElem? hx)
      have oy : y.Ok := O2.out y (List.mem_of_getElem? hy)
      have hml : k < m.length := by have := ((smB_true l m k).1 hsm).1; omega
      obtain ⟨g, o, cap, hform, hcap, hg, hcell⟩ := (H1.out.keep hB).some (by omega)
      injection hform with hf1 _ hf2
      subst hf1; subst hf2
      obtain ⟨g2, o2, cap2', hform2, hcap2, hg2, hcell2⟩ := (H2.out.keep hB).some (by omega)
      injection hform2 with hf1 _ hf2
      subst hf1; subst hf2
      have q1 : ∀ W', (∃ n, W' = wr.drewN n) → W'.rangeAt g (o + k * 33) (enV x) := by
        rintro W' ⟨n, rfl⟩
        exact range_call' (hcell k x hx) hg (below_drewN wr _)
      have q2 : ∀ W', (∃ n, W' = wr.drewN n) → W'.rangeAt g2 (o2 + k * 33) (enV y) := by
        rintro W' ⟨n, rfl⟩
        exact range_call' (hcell2 k y hy) hg2 (below_drewN wr _)
      have j1 := infoEn (enV x).length (enV_len x ox)
      have j2 := infoEn (enV y).length (enV_len y oy)
      have hcmp := fun W => run_eql_en x y ox oy W
      have hnx := smB_next l m k x y hx hy hsm
      rw [← hnx] at hcmp
      have hk1 : (k : Int) < (l.length : Int) := by omega
      have hk2 : (k : Int) < (m.length : Int) := by omega
      have hk0 : (0 : Int) ≤ (k : Int) := by omega
      have HB := Lib.hid hB
      clear hcell hcell2 hx hy ox oy hB hnx
      generalize enV x = ex at *
      generalize enV y = ey at *
      obtain ⟨sn, hsn⟩ : ∃ sn, smB l m (k + 1) = sn := ⟨_, rfl⟩
      rw [hsn] at hcmp
      have HSN := Lib.hid hsn
      clear hsn
      go_wp2_with fail
      refine wp_region_quiet_lit (by kernel_rfl) (by kernel_rfl) ?_
      repeat (first | (go_big_quiet_want; (first | refine quiet_load_mid 29 _ rfl g (o + k * 33) rfl _ _ q1 Tryd.underlying29 rfl j1 ?_ | refine quiet_load_mid 29 _ rfl g2 (o2 + k * 33) rfl _ _ q2 Tryd.underlying29 rfl j2 ?_); simp only [Act.put, List.setIfInBounds_toArray, List.set_cons_zero, List.set_cons_succ]; go_big_quiet_on) | go_big_quiet_step (fail))
      refine wpQuiet_nil ?_
      rintro W1 ⟨nq3, rfl⟩
      clear q1 q2 hcmp
      go_wp2_with fail
      go_roundw
      case rel => exact ⟨k + 1, by omega, by go_num, by rw [HSN.out], bel_call HB.out (below_drewN wr nq3)⟩
      case measure => simp [intOf]; omega
    · have hend : smB l m k = r := by
        rw [Bool.eq_iff_iff, HR.out]
        refine smB_end l m k ?_
        by_cases h : k < l.length
        · exact .inr (by cases h2 : smB l m k with
            | true => exact absurd ⟨h, h2⟩ hgo
            | false => rfl)
        · exact .inl h
      have hkl : k < l.length → r = false := fun h => by
        rw [← hend]
        cases h2 : smB l m k with
        | true => exact absurd ⟨h, h2⟩ hgo
        | false => rfl
      rw [hend]
      clear hend hgo
      have hac : Below w.heap.size w wr := hB
      clear hB
      have hsplit : (k < l.length ∧ r = false) ∨ (¬ k < l.length ∧ r = true) ∨ (¬ k < l.length ∧ r = false) := by
        by_cases h : k < l.length
        · exact .inl ⟨h, hkl h⟩
        · cases r with
          | true => exact .inr (.inl ⟨h, rfl⟩)
          | false => exact .inr (.inr ⟨h, rfl⟩)
      clear hkl
      rcases hsplit with ⟨hk3, rfl⟩ | ⟨hk3, rfl⟩ | ⟨hk3, rfl⟩
      all_goals
        have hs1 := HTX.out.1
        have hs2 := HTX.out.2
        go_upto_region 10 with (first
          | (go_at_call 11; (with_reducible refine (KT1.out _ _ (H1.out.keep hac)).mono ?_); rintro e w2 ⟨rfl, hb2⟩; have hac := bel_call hac hb2)
          | (go_at_call 11; (with_reducible refine (KT2.out _ _ (H2.out.keep hac)).mono ?_); rintro e w3 ⟨rfl, hb3⟩; have hac := bel_call hac hb3))
        clear hs1 hs2 hb2 hb3
        go_upto_region 11 with (first
          | (go_at_call 11; (with_reducible refine (KT1.out _ _ (H1.out.keep hac)).mono ?_); rintro e w4 ⟨rfl, hb4⟩; obtain ⟨cX, WX, hcv, hrd, hbw⟩ := HX1.out w4; have hac := bel_call (bel_call hac hb4) hbw)
          | (go_at_call 12; (with_reducible refine (KS1.out _ _ hrd).mono ?_); rintro e w5 ⟨rfl, hb5⟩; have hac := bel_call hac hb5)
          | (refine wpList_store_row rfl 27 _ _ rfl _ rfl _ rfl 27 _ (heap_alloc_new _ _) I1.out (by simp [L1.out]) E1.out ?_))
        refine wp_gen (fun W => RowT 27 .u8 w5.heap.size ss1 W ∧ Below w.heap.size w W) ⟨setRow_heap _ _ _ _ 27 _ (heap_alloc_new _ _), _root_.Go.below_setRow (bel_alloc hac _) hac.size _⟩ ?_
        clear hcv hrd hbw hb4 hb5 hac
        generalize w5.heap.size = B7
        rintro W ⟨hR, hac⟩
        simp only [Act.put]
        go_upto_region 12 with (first
          | (go_at_call 11; (with_reducible refine (KT2.out _ _ (H2.out.keep hac)).mono ?_); rintro e w6 ⟨rfl, hb6⟩; obtain ⟨cY, WY, hcv, hrd, hbw⟩ := HX2.out w6; have hac := bel_call (bel_call hac hb6) hbw; have hR := (hR.call hb6).call hbw)
          | (go_at_call 12; (with_reducible refine (KS2.out _ _ hrd).mono ?_); rintro e w7 ⟨rfl, hb7⟩; have hac := bel_call hac hb7; have hR := hR.call hb7)
          | (refine wpList_store_row rfl 27 _ _ rfl _ rfl _ rfl 27 _ (heap_alloc_new _ _) I2.out (by simp [L2.out]) E2.out ?_))
        refine wp_gen (fun W => RowT 27 .u8 B7 ss1 W ∧ RowT 27 .u8 w7.heap.size ss2 W ∧ Below w.heap.size w W) ⟨(hR.alloc _).setRow_other (by have := hR.lt; omega) _, setRow_heap _ _ _ _ 27 _ (heap_alloc_new _ _), _root_.Go.below_setRow (bel_alloc hac _) hac.size _⟩ ?_
        clear hcv hrd hbw hb6 hb7 hac hR
        generalize w7.heap.size = B8
        rintro W ⟨hR1, hR2, hacw⟩
        simp only [Act.put]
        have hacc := Below.refl W.heap.size W
        have HB := Lib.hid (fun U (h : Below W.heap.size W U) => bel_call hacw h)
        by_cases he : l.length = 0 ∨ m.length = 0
        · have hq := HO0.out he
          have hq1 := hq.1; have hq2 := hq.2
          clear hR1 hR2 hacw hq
          have hguard : ((l.length : Int) == 0) = true ∨ (((l.length : Int) == 0) = false ∧ ((m.length : Int) == 0) = true) := by
            rcases he with he | he
            · exact .inl (by simp [he])
            · by_cases h0 : l.length = 0
              · exact .inl (by simp [h0])
              · exact .inr ⟨by rw [beq_eq_false_iff_ne]; omega, by simp [he]⟩
          rcases hguard with hg1 | ⟨hg1, hg2⟩
          all_goals
            go_wp2_with (first
              | (go_at_call 7; (with_reducible refine (KO1.out _ _ (H1.out.keep (HB.out _ hacc)) (HB.out _ hacc)).mono ?_); rintro e w8 ⟨rfl, hb8⟩; have hacc := bel_call hacc hb8)
              | (go_at_call 7; (with_reducible refine (KO2.out _ _ (H2.out.keep (HB.out _ hacc)) (HB.out _ hacc)).mono ?_); rintro e w9 ⟨rfl, hb9⟩; have hacc := bel_call hacc hb9)
              | (go_at_call 6; (with_reducible refine (KW.out _ (HB.out _ hacc)).mono ?_); rintro e w10 ⟨rfl, hb10⟩; have hacc := bel_call hacc hb10))
            go_ret
            exact ⟨rfl, HB.out _ hacc⟩
        · have hnl : ¬ l.length = 0 := fun h => he (.inl h)
          have hnm : ¬ m.length = 0 := fun h => he (.inr h)
          have hq := HO1.out (HNN.out.1.2 hnl) (HNN.out.2.2 hnm)
          have hq1 := hq.1; have hq2 := hq.2
          have hg1 : ((l.length : Int) == 0) = false := by rw [beq_eq_false_iff_ne]; omega
          have hg2 : ((m.length : Int) == 0) = false := by rw [beq_eq_false_iff_ne]; omega
          have heq := HEQ.out
          obtain ⟨c1, hc1⟩ : ∃ c1, ss1.map (Value.int .u8) = c1 := ⟨_, rfl⟩
          obtain ⟨c2, hc2⟩ : ∃ c2, ss2.map (Value.int .u8) = c2 := ⟨_, rfl⟩
          have hRa : W.heap[B7]? = some (.cells c1.toArray 27 (0, 0)) := by rw [← hc1]; exact hR1
          have hRb : W.heap[B8]? = some (.cells c2.toArray 27 (0, 0)) := by rw [← hc2]; exact hR2
          have lt1 := hR1.lt; have lt2 := hR2.lt
          have r1 := range_of_row hRa; have r2 := range_of_row hRb
          rw [hc1, hc2] at heq
          rw [hc1] at hi1
          rw [hc2] at hi2
          generalize (ss1 == ss2) = b3 at *
          have HS := Lib.hid (fun U (h : Below W.heap.size W U) => And.intro (range_call' r1 lt1 h) (range_call' r2 lt2 h))
          clear hR1 hR2 hacw hq he hc1 hc2 hRa hRb r1 r2 HO1 HO0 HEQ I1 I2 E1 E2
          have hacc : Below W.heap.size W W.drew := below_drewN W 1
          go_upto_region 14 with fail
          cases b3
          all_goals
            refine wp_region_noPanic ?_
            refine wp_region_held_drew (S := (fun w' => w'.rangeAt B7 0 c1 ∧ w'.rangeAt B8 0 c2)) (by kernel_rfl) (HS.out _ hacc) (fun hHeld => ?_)
            refine wpAnyH_take (i := 0) (oi := ?_) (v := ?_) ?_ (by kernel_rfl) (by kernel_rfl) (by kernel_rfl) ?_ (Or.inl ⟨?_, ?_⟩) (by assumption) ?_
            rotate_left 2
            · simp only [List.getElem?_toArray, List.getElem?_cons_zero]; rfl
            · exact fun _ _ _ h => h
            · rfl
            · (intro w hSw; (try dsimp only at hSw); go_simp) <;> with_reducible rfl
            try simp only [Act.put, List.setIfInBounds_toArray, List.set_cons_zero, List.set_cons_succ]
            refine wpAnyH_take (i := 2) (oi := ?_) (v := ?_) ?_ (by kernel_rfl) (by kernel_rfl) (by kernel_rfl) ?_ (Or.inl ⟨?_, ?_⟩) (by assumption) ?_
            rotate_left 2
            · simp only [List.getElem?_toArray, List.getElem?_cons_succ, List.getElem?_cons_zero]; rfl
            · exact fun _ _ _ h => h
            · rfl
            · (intro w hSw; (try dsimp only at hSw); go_simp) <;> with_reducible rfl
            try simp only [Act.put, List.setIfInBounds_toArray, List.set_cons_zero, List.set_cons_succ]
            refine wpAnyH_take (i := 5) (oi := ?_) (v := .agg c1.toArray) ?_ (by kernel_rfl) (by kernel_rfl) (by kernel_rfl) ?_ (yieldsIf_load_mid ?_ 27 (.tmp 7) ?_ (B7) 0 ?_ _ _ ?_ hu rfl hi1) (by assumption) ?_
            rotate_left 1
            · simp only [List.getElem?_toArray, List.getElem?_cons_succ, List.getElem?_cons_zero]; rfl
            · exact fun _ _ _ h => h
            · rfl
            · rfl
            · rfl
            · exact (fun _ h => And.left h)
            try simp only [Act.put, List.setIfInBounds_toArray, List.set_cons_zero, List.set_cons_succ]
            refine wpAnyH_take (i := 6) (oi := ?_) (v := .agg c2.toArray) ?_ (by kernel_rfl) (by kernel_rfl) (by kernel_rfl) ?_ (yieldsIf_load_mid ?_ 27 (.tmp 8) ?_ (B8) 0 ?_ _ _ ?_ hu rfl hi2) (by assumption) ?_
            rotate_left 1
            · simp only [List.getElem?_toArray, List.getElem?_cons_succ, List.getElem?_cons_zero]; rfl
            · exact fun _ _ _ h => h
            · rfl
            · rfl
            · rfl
            · exact (fun _ h => And.right h)
            try simp only [Act.put, List.setIfInBounds_toArray, List.set_cons_zero, List.set_cons_succ]
            refine wpAnyH_take (i := 7) (oi := ?_) (v := ?_) ?_ (by kernel_rfl) (by kernel_rfl) (by kernel_rfl) ?_ (Or.inl ⟨?_, ?_⟩) (by assumption) ?_
            rotate_left 2
            · simp only [List.getElem?_toArray, List.getElem?_cons_succ, List.getElem?_cons_zero]; rfl
            · exact fun _ _ _ h => h
            · rfl
            · (intro w hSw; (try dsimp only at hSw); go_simp) <;> with_reducible rfl
            try simp only [Act.put, List.setIfInBounds_toArray, List.set_cons_zero, List.set_cons_succ]
            refine wpAnyH_one 1 (o := ?_) (by kernel_rfl) ?_ (fun K hK => ?_)
            rotate_left 1
            · simp only [List.getElem?_toArray, List.getElem?_cons_succ, List.getElem?_cons_zero]; rfl
            go_simp
            refine (KO1.out _ _ (H1.out.keep (HB.out _ hacc)) (HB.out _ hacc)).mono ?_; rintro e w3 ⟨rfl, hb3⟩; have hacc := bel_call hacc hb3
            refine hK.out _ _ (HS.out _ hacc) (fun hH => ?_)
            clear hHeld; have hHeld := hH; clear hH hK K
            try simp only [Act.put, List.setIfInBounds_toArray, List.set_cons_zero, List.set_cons_succ]
            refine wpAnyH_one 3 (o := ?_) (by kernel_rfl) ?_ (fun K hK => ?_)
            rotate_left 1
            · simp only [List.getElem?_toArray, List.getElem?_cons_succ, List.getElem?_cons_zero]; rfl
            go_simp
            refine (KO2.out _ _ (H2.out.keep (HB.out _ hacc)) (HB.out _ hacc)).mono ?_; rintro e w5 ⟨rfl, hb5⟩; have hacc := bel_call hacc hb5
            refine hK.out _ _ (HS.out _ hacc) (fun hH => ?_)
            clear hHeld; have hHeld := hH; clear hH hK K
            try simp only [Act.put, List.setIfInBounds_toArray, List.set_cons_zero, List.set_cons_succ]
            refine wpAnyH_take (i := 4) (oi := ?_) (v := ?_) ?_ (by kernel_rfl) (by kernel_rfl) (by kernel_rfl) ?_ (Or.inl ⟨?_, ?_⟩) (by assumption) ?_
            rotate_left 2
            · simp only [List.getElem?_toArray, List.getElem?_cons_succ, List.getElem?_cons_zero]; rfl
            · exact fun _ _ _ h => h
            · rfl
            · (intro w hSw; (try dsimp only at hSw); go_simp) <;> with_reducible rfl
            try simp only [Act.put, List.setIfInBounds_toArray, List.set_cons_zero, List.set_cons_succ]
            refine wpAnyH_take (i := 8) (oi := ?_) (v := ?_) ?_ (by kernel_rfl) (by kernel_rfl) (by kernel_rfl) ?_ (Or.inl ⟨?_, ?_⟩) (by assumption) ?_
            rotate_left 2
            · simp only [List.getElem?_toArray, List.getElem?_cons_succ, List.getElem?_cons_zero]; rfl
            · exact fun _ _ _ h => h
            · rfl
            · (intro w hSw; (try dsimp only at hSw); go_simp) <;> with_reducible rfl
            try simp only [Act.put, List.setIfInBounds_toArray, List.set_cons_zero, List.set_cons_succ]
            refine wpAnyH_take (i := 9) (oi := ?_) (v := ?_) ?_ (by kernel_rfl) (by kernel_rfl) (by kernel_rfl) ?_ (Or.inl ⟨?_, ?_⟩) (by assumption) ?_
            rotate_left 2
            · simp only [List.getElem?_toArray, List.getElem?_cons_succ, List.getElem?_cons_zero]; rfl
            · exact fun _ _ _ h => h
            · rfl
            · (intro w hSw; (try dsimp only at hSw); go_simp) <;> with_reducible rfl
            try simp only [Act.put, List.setIfInBounds_toArray, List.set_cons_zero, List.set_cons_succ]
            refine wpAnyH_one 10 (o := ?_) (by kernel_rfl) ?_ (fun K hK => ?_)
            rotate_left 1
            · simp only [List.getElem?_toArray, List.getElem?_cons_succ, List.getElem?_cons_zero]; rfl
            go_simp
            refine (KW.out _ (HB.out _ hacc)).mono ?_; rintro e w8 ⟨rfl, hb8⟩; have hacc := bel_call hacc hb8
            refine hK.out _ _ (HS.out _ hacc) (fun hH => ?_)
            clear hHeld; have hHeld := hH; clear hH hK K
            try simp only [Act.put, List.setIfInBounds_toArray, List.set_cons_zero, List.set_cons_succ]
            refine wpAnyH_take (i := 11) (oi := ?_) (v := ?_) ?_ (by kernel_rfl) (by kernel_rfl) (by kernel_rfl) ?_ (Or.inl ⟨?_, ?_⟩) (by assumption) ?_
            rotate_left 2
            · simp only [List.getElem?_toArray, List.getElem?_cons_succ, List.getElem?_cons_zero]; rfl
            · exact fun _ _ _ h => h
            · rfl
            · (intro w hSw; (try dsimp only at hSw); go_simp) <;> with_reducible rfl
            try simp only [Act.put, List.setIfInBounds_toArray, List.set_cons_zero, List.set_cons_succ]
            refine wpAnyH_take (i := 12) (oi := ?_) (v := ?_) ?_ (by kernel_rfl) (by kernel_rfl) (by kernel_rfl) ?_ (Or.inl ⟨?_, ?_⟩) (by assumption) ?_
            rotate_left 2
            · simp only [List.getElem?_toArray, List.getElem?_cons_succ, List.getElem?_cons_zero]; rfl
            · exact fun _ _ _ h => h
            · rfl
            · (intro w hSw; (try dsimp only at hSw); go_simp) <;> with_reducible rfl
            try simp only [Act.put, List.setIfInBounds_toArray, List.set_cons_zero, List.set_cons_succ]
            refine wpAnyH_done (by kernel_rfl) ?_ _
            refine NoPanic.normal ?_
            try simp only [Act.put, List.setIfInBounds_toArray, List.set_cons_zero, List.set_cons_succ]
            go_wp2_with fail
            go_ret
            exact ⟨rfl, HB.out _ hacc⟩
end Go.Proofs.YtoeooabaofpngaaDoor
