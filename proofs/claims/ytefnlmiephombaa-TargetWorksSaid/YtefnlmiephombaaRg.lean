/- The contract of scantlingref02.Div: the walk. -/
import Derived.Test.YtefnlmiephombaaRd
namespace Go.Proofs.Ytefnlmiephombaa
open Go.RowKit Go.Sort

set_option maxRecDepth 100000 in
set_option maxHeartbeats 400000 in
theorem rdiv_no (A D : Int) (w : World)
   (heq : ∀ w, (binOp .eql 24 (.agg #[.int .u64 (L0 D), .int .u64 (L1 D), .int .u64 (L2 D), .int .u64 (L3 D)]) (.agg #[.int .u64 0, .int .u64 0, .int .u64 0, .int .u64 0])).run Try.prog w = .ok (.bool true) w) :
    Calls Try.prog 15 #[big A, big D] w fun e w' => e = .returned (.tuple #[big 0, big 0, .int .i64 1]) ∧ Below w.heap.size w w' := by
  unfold big
  go_enter Try.func15, Try.ntmps15
  go_wp2_with fail
  go_region
  all_goals go_wp2
  exact bodyPost_ret (v := .tuple #[.agg #[.int .u64 0, .int .u64 0, .int .u64 0, .int .u64 0], .agg #[.int .u64 0, .int .u64 0, .int .u64 0, .int .u64 0], .int .i64 1]) (by simp [results, Try.results15, go_sem]) rfl
    ⟨rfl, by repeat (first | exact Below.refl _ _ | refine bel_drew ?_ | refine bel_alloc ?_ _)⟩

set_option maxRecDepth 100000 in
set_option maxHeartbeats 4000000 in
theorem rdiv_yes (A D : Int) (w : World) (h1 : 0 ≤ A) (h2 : A < M) (h3 : 0 < D) (h4 : D < M)
   (heq : ∀ w, (binOp .eql 24 (.agg #[.int .u64 (L0 D), .int .u64 (L1 D), .int .u64 (L2 D), .int .u64 (L3 D)]) (.agg #[.int .u64 0, .int .u64 0, .int .u64 0, .int .u64 0])).run Try.prog w = .ok (.bool false) w) :
    Calls Try.prog 15 #[big A, big D] w fun e w' => e = .returned (.tuple #[big (A / D), big (A % D), .int .i64 0]) ∧ Below w.heap.size w w' := by
  have hmk := mk256 (A / D)
  have H1 := Lib.hid h1; have H2 := Lib.hid h2; have H3 := Lib.hid h3; have H4 := Lib.hid h4
  clear h1 h2 h3 h4
  unfold big
  go_enter Try.func15, Try.ntmps15
  go_wp2_with fail
  refine wp_gen (fun W => Cells4 W w.heap.size A ∧ Cells4 W (w.heap.size + 1) D ∧ Cells4 W (w.heap.size + 1 + 1) 0 ∧ Cells4 W (w.heap.size + 1 + 1 + 1) 0 ∧ Cells4 W (w.heap.size + 1 + 1 + 1 + 1 + 1) 0 ∧ RowI (w.heap.size + 1 + 1 + 1 + 1 + 1 + 1) (top (A / D) 256) W ∧ Below w.heap.size w W) ⟨?_, ?_, ?_, ?_, ?_, ?_, ?_⟩ ?_
  · exact ((((((cells4_new w A).alloc _).alloc _).alloc _).alloc _).alloc _).alloc _
  · exact (((((cells4_new' (w.alloc _) _ D (by simp)).alloc _).alloc _).alloc _).alloc _).alloc _
  · exact ((((cells4_new' ((w.alloc _).alloc _) _ 0 (by simp)).alloc _).alloc _).alloc _).alloc _
  · exact (((cells4_new' (((w.alloc _).alloc _).alloc _) _ 0 (by simp)).alloc _).alloc _).alloc _
  · exact (cells4_new' (((((w.alloc _).alloc _).alloc _).alloc _).alloc _) _ 0 (by simp)).alloc _
  · have := RowI.new ((((((w.alloc (.cells #[.int .u64 (L0 A), .int .u64 (L1 A), .int .u64 (L2 A), .int .u64 (L3 A)] 24)).alloc (.cells #[.int .u64 (L0 D), .int .u64 (L1 D), .int .u64 (L2 D), .int .u64 (L3 D)] 24)).alloc (.cells #[.int .u64 0, .int .u64 0, .int .u64 0, .int .u64 0] 24)).alloc (.cells #[.int .u64 0, .int .u64 0, .int .u64 0, .int .u64 0] 24)).alloc (.cells #[.int .u64 0, .int .u64 0, .int .u64 0, .int .u64 0] 24)).alloc (.cells #[.int .u64 0, .int .u64 0, .int .u64 0, .int .u64 0] 24)) (top (A / D) 256)
    simpa using this
  · exact bel_alloc (bel_alloc (bel_alloc (bel_alloc (bel_alloc (bel_alloc (bel_alloc (Below.refl _ _) _) _) _) _) _) _) _
  clear hmk heq
  rintro W0 ⟨cA, cD, cQ, cR, cr, hl, hB⟩
  go_loopw [10] (fun i wr => ∃ k : Nat, k ≤ 256 ∧ i = .int .i64 ((k : Int) - 1) ∧ Cells4 wr w.heap.size A ∧ Cells4 wr (w.heap.size + 1) D ∧ Cells4 wr (w.heap.size + 1 + 1) 0 ∧ Cells4 wr (w.heap.size + 1 + 1 + 1) 0 ∧ Cells4 wr (w.heap.size + 1 + 1 + 1 + 1 + 1) (A / 2 ^ k % D) ∧ RowI (w.heap.size + 1 + 1 + 1 + 1 + 1 + 1) (top (A / D) k) wr ∧ Below w.heap.size w wr) (fun i _ => (intOf i + 1).toNat)
  case atStart =>
    refine ⟨256, by omega, rfl, cA, cD, cQ, cR, ?_, hl, hB⟩
    rw [← M_two, Int.ediv_eq_zero_of_lt H1.out H2.out, Int.zero_emod]
    exact cr
  case round =>
    clear cA cD cQ cR cr hl hB
    obtain ⟨k, hk, rfl, cA, cD, cQ, cR, cr, hl, hB⟩ := hrel
    rcases k with _ | k
    · have e0 : ((0 : Nat) : Int) - 1 = -1 := by omega
      rw [e0]
      clear e0
      rw [top_end] at hl
      simp only [Int.pow_zero, Int.ediv_one] at cr
      have hlen : (rowB (A / D) 256).length = 256 := rowB_length _ _
      have hfr := from_row (w.heap.size + 1 + 1 + 1 + 1 + 1 + 1) (.slice (some ⟨w.heap.size + 1 + 1 + 1 + 1 + 1 + 1, 0, none⟩) (rowB (A / D) 256).length (rowB (A / D) 256).length) (rowB (A / D) 256) (Or.inl hlen) (rowB_bits _ _) wr.drew ((show RowI _ _ wr.drew from hl).owns _ (Nat.le_refl _) (by omega))
      rw [List.take_of_length_le (by omega), ofBits_m, big_m, hlen] at hfr
      unfold big at hfr
      obtain ⟨r0, r1, r2, r3, r4, r5, r6, r7⟩ := id cr
      obtain ⟨x0, x1, x2, x3, x4, x5, x6, x7⟩ := id cQ
      obtain ⟨z0, z1, z2, z3, z4, z5, z6, z7⟩ := id cR
      go_wp2_with fail
      go_region_with (go_at_call 49; with_reducible refine hfr.mono ?_; rintro e w1 ⟨rfl, hb⟩; obtain ⟨y0, y1, y2, y3, s0, s1, s2, s3⟩ := id (cQ.drew.call hb); obtain ⟨v0, v1, v2, v3, t0, t1, t2, t3⟩ := id (cR.drew.call hb); obtain ⟨g0, g1, g2, g3, -, -, -, -⟩ := id (cr.drew.call hb))
      all_goals go_wp2
      all_goals exact bodyPost_ret (v := .tuple #[.agg #[.int .u64 (L0 (A / D)), .int .u64 (L1 (A / D)), .int .u64 (L2 (A / D)), .int .u64 (L3 (A / D))], .agg #[.int .u64 (L0 (A % D)), .int .u64 (L1 (A % D)), .int .u64 (L2 (A % D)), .int .u64 (L3 (A % D))], .int .i64 0]) (by simp [results, Try.results15, go_sem, y0, y1, y2, y3, v0, v1, v2, v3]) rfl ⟨rfl, below_put4 (below_put4 (bel_call (bel_drew hB) hb) (by omega) _) (by omega) _⟩
    · have e0 : ((k + 1 : Nat) : Int) - 1 = k := by omega
      rw [e0]
      have hk0 : (0 : Int) ≤ k := by omega
      clear e0
      obtain ⟨b1, b2, b3, b4⟩ := div_bit A D H3.out k
      have hbd := bt_bd A k
      have hR0 := Int.emod_nonneg (A / 2 ^ (k + 1)) (b := D) (by have := H3.out; omega)
      have hR1 := Int.emod_lt_of_pos (A / 2 ^ (k + 1)) H3.out
      have B1 := Lib.hid b1; have B2 := Lib.hid b2
      clear b1 b2
      generalize A / 2 ^ (k + 1) % D = R at *
      obtain ⟨t1, t2⟩ := top_bit R (bt A k) hR0 (by have := H4.out; omega) hbd
      have T1 := Lib.hid t1; have T2 := Lib.hid t2
      clear t1 t2
      obtain ⟨r0, r1, r2, r3, r4, r5, r6, r7⟩ := id cr
      have kt : ∀ w, Calls Try.prog 48 #[.agg #[.int .u64 (L0 R), .int .u64 (L1 R), .int .u64 (L2 R), .int .u64 (L3 R)], .int .i64 255] w fun e w' => e = .returned (.int .i64 (bt R 255)) ∧ Below w.heap.size w w' := fun w => bit_c R 255 w
      go_upto_region 9 with (go_at_call 48; with_reducible refine (kt _).mono ?_; rintro e w1 ⟨rfl, hb⟩)
      refine wp_gen (fun wr => Cells4 wr w.heap.size A ∧ Cells4 wr (w.heap.size + 1) D ∧ Cells4 wr (w.heap.size + 1 + 1) 0 ∧ Cells4 wr (w.heap.size + 1 + 1 + 1) 0 ∧ Cells4 wr (w.heap.size + 1 + 1 + 1 + 1 + 1) R ∧ RowI (w.heap.size + 1 + 1 + 1 + 1 + 1 + 1) (top (A / D) (k + 1)) wr ∧ Below w.heap.size w wr) ⟨cA.call hb, cD.call hb, cQ.call hb, cR.call hb, cr.call hb, hl.call hb, bel_call hB hb⟩ ?_
      clear hb w1 r0 r1 r2 r3 r4 r5 r6 r7 cA cD cQ cR cr hl hB kt
      clear wr
      rintro wr ⟨cA, cD, cQ, cR, cr, hl, hB⟩
      obtain ⟨r0, r1, r2, r3, r4, r5, r6, r7⟩ := id cr
      have ku := fun w => rup_c R 1 w
      unfold big at ku
      go_upto_region 10 with (go_at_call 17; with_reducible refine (ku _).mono ?_; rintro e w1 ⟨rfl, hb⟩; obtain ⟨hc, hf⟩ := bcell hb; have hs := hb.size; have sr := cr.lt)
      refine wp_gen (fun wr => Cells4 wr w.heap.size A ∧ Cells4 wr (w.heap.size + 1) D ∧ Cells4 wr (w.heap.size + 1 + 1) 0 ∧ Cells4 wr (w.heap.size + 1 + 1 + 1) 0 ∧ Cells4 wr (w.heap.size + 1 + 1 + 1 + 1 + 1) (upv R 1) ∧ RowI (w.heap.size + 1 + 1 + 1 + 1 + 1 + 1) (top (A / D) (k + 1)) wr ∧ Below w.heap.size w wr) ⟨(cA.call hb).put_other (by omega) _, (cD.call hb).put_other (by omega) _, (cQ.call hb).put_other (by omega) _, (cR.call hb).put_other (by omega) _, (cr.call hb).put _, (hl.call hb).put4 (by omega) _, below_put4 (bel_call hB hb) (by omega) _⟩ ?_
      clear hc hf hs sr hb w1 r0 r1 r2 r3 r4 r5 r6 r7 cA cD cQ cR cr hl hB ku
      clear wr
      rintro wr ⟨cA, cD, cQ, cR, cr, hl, hB⟩
      obtain ⟨o0, o1, o2, o3⟩ := or_low R (bt A k) hbd.1 hbd.2
      have O1 := Lib.hid o1; have O2 := Lib.hid o2; have O3 := Lib.hid o3
      clear o1 o2 o3
      obtain ⟨r0, r1, r2, r3, r4, r5, r6, r7⟩ := id cr
      obtain ⟨a0, a1, a2, a3, -, -, -, -⟩ := id cA
      have sr := cr.lt
      have sA := cA.lt
      have kb : ∀ w, Calls Try.prog 48 #[.agg #[.int .u64 (L0 A), .int .u64 (L1 A), .int .u64 (L2 A), .int .u64 (L3 A)], .int .i64 k] w fun e w' => e = .returned (.int .i64 (bt A k)) ∧ Below w.heap.size w w' := fun w => by
        have := bit_c A k w
        rwa [bitv_nat A k (by omega)] at this
      have wb : IntKind.u64.wrap (bt A k) = bt A k := by rw [IntKind.wrap_u64]; omega
      go_cut [] from 18 to 50 (fun wr => Cells4 wr w.heap.size A ∧ Cells4 wr (w.heap.size + 1) D ∧ Cells4 wr (w.heap.size + 1 + 1) 0 ∧ Cells4 wr (w.heap.size + 1 + 1 + 1) 0 ∧ Cells4 wr (w.heap.size + 1 + 1 + 1 + 1 + 1) (upv R 1 + bt A k) ∧ RowI (w.heap.size + 1 + 1 + 1 + 1 + 1 + 1) (top (A / D) (k + 1)) wr ∧ Below w.heap.size w wr)
      case first =>
        go_region_with (go_at_call 48; with_reducible refine (kb _).mono ?_; rintro e w1 ⟨rfl, hb⟩; obtain ⟨x0, x1, x2, x3, y0, y1, y2, y3⟩ := id (cr.drew.call hb))
        all_goals (go_wp2_with fail; go_meet)
        all_goals exact ⟨(cA.drew.call hb).set_other (by omega) _, (cD.drew.call hb).set_other (by omega) _, (cQ.drew.call hb).set_other (by omega) _, (cR.drew.call hb).set_other (by omega) _, (cr.drew.call hb).set0 _ O1.out O2.out O3.out, ((show RowI _ _ wr.drew from hl).call hb).set_other (by omega) _, (bel_call (bel_drew hB) hb).setCell (p := ⟨_, 0, none⟩) (by simp; omega) _⟩
      case' rest =>
        obtain ⟨nA, nD, nQ, nR, nr, nl, nB⟩ := hcut
        clear O1 O2 O3 o0 r0 r1 r2 r3 r4 r5 r6 r7 a0 a1 a2 a3 sr sA kb wb cA cD cQ cR cr hl hB
        clear wr
        go_upto_region 11 with (fail)
        refine wp_gen (fun wr => Cells4 wr w.heap.size A ∧ Cells4 wr (w.heap.size + 1) D ∧ Cells4 wr (w.heap.size + 1 + 1) 0 ∧ Cells4 wr (w.heap.size + 1 + 1 + 1) 0 ∧ Cells4 wr (w.heap.size + 1 + 1 + 1 + 1 + 1) (upv R 1 + bt A k) ∧ RowI (w.heap.size + 1 + 1 + 1 + 1 + 1 + 1) (top (A / D) (k + 1)) wr ∧ Below w.heap.size w wr) ⟨nA, nD, nQ, nR, nr, nl, nB⟩ ?_
        clear nA nD nQ nR nr nl nB
        clear wc
        rintro wr ⟨cA, cD, cQ, cR, cr, hl, hB⟩
      rw [upv_one] at cr
      obtain ⟨c1, c2⟩ := rem_case (R * 2 + bt A k) D H3.out b4 b3
      have hTM : ¬ D ≤ R * 2 + bt A k → bt R 255 = 0 := fun h => by
        have := bt_bd R 255
        have h1 := T1.out
        have := H4.out
        omega
      have htop := bt_bd R 255
      by_cases hge : D ≤ R * 2 + bt A k
      · have C := Lib.hid (c1 hge)
        clear c1 c2 hTM
        have hm2 : ¬ bt R 255 = 1 → bt R 255 = 0 ∧ decide (m (R * 2 + bt A k) < m D) = false := fun h => by
          have h0 : bt R 255 = 0 := by omega
          refine ⟨h0, ?_⟩
          rw [(T2.out h0).1, m_of D (by have := H3.out; omega) H4.out]
          simpa using hge
        have hd : D % M = D := m_of D (by have := H3.out; omega) H4.out
        have HD := Lib.hid hd
        clear hd hge
        have kl := fun w => rless_c (R * 2 + bt A k) D w
        have ks := fun w => rsub_c (R * 2 + bt A k) D w
        unfold big at kl ks
        have hkl : (k : Int) < 256 := by omega
        by_cases ht : bt R 255 = 1
        · rw [ht]
          clear htop ht hm2 kl
          obtain ⟨r0, r1, r2, r3, r4, r5, r6, r7⟩ := id cr
          obtain ⟨d0, d1, d2, d3, -, -, -, -⟩ := id cD
          go_upto_region 13 with (go_at_call 26; with_reducible refine (ks _).mono ?_; rintro e w1 ⟨rfl, hb⟩; obtain ⟨hc, hf⟩ := bcell hb; have hs := hb.size; have sr := cr.lt)
          refine wp_gen (fun wr => Cells4 wr w.heap.size A ∧ Cells4 wr (w.heap.size + 1) D ∧ Cells4 wr (w.heap.size + 1 + 1) 0 ∧ Cells4 wr (w.heap.size + 1 + 1 + 1) 0 ∧ Cells4 wr (w.heap.size + 1 + 1 + 1 + 1 + 1) (R * 2 + bt A k - D) ∧ RowI (w.heap.size + 1 + 1 + 1 + 1 + 1 + 1) (top (A / D) (k + 1)) wr ∧ Below w.heap.size w wr) ⟨(cA.call hb).put_other (by omega) _, (cD.call hb).put_other (by omega) _, (cQ.call hb).put_other (by omega) _, (cR.call hb).put_other (by omega) _, (cr.call hb).put _, (hl.call hb).put4 (by omega) _, below_put4 (bel_call hB hb) (by omega) _⟩ ?_
          clear hc hf hs sr hb w1 r0 r1 r2 r3 r4 r5 r6 r7 d0 d1 d2 d3 cA cD cQ cR cr hl hB ks
          clear wr
          rintro wr ⟨cA, cD, cQ, cR, cr, hl, hB⟩
          have lc := hl.cell k (by rw [top_length]; omega)
          have lf := hl.frozen k
          go_wp2
          go_roundw
          case rel => exact ⟨k, by omega, by go_num, cA.set_other (by omega) _, cD.set_other (by omega) _, cQ.set_other (by omega) _, cR.set_other (by omega) _, by rw [B1.out, C.out.2]; exact cr.set_other (by omega) _, by (have hq := top_set (A / D) k; rw [B2.out, C.out.1] at hq; rw [← hq]; exact hl.set k 1), hB.setCell (p := ⟨_, _, none⟩) (by simp; omega) _⟩
          case measure => simp [intOf]
        · obtain ⟨h0, hm3⟩ := hm2 ht
          rw [h0]
          rw [hm3] at kl
          clear htop ht hm2 h0 hm3
          obtain ⟨r0, r1, r2, r3, r4, r5, r6, r7⟩ := id cr
          obtain ⟨d0, d1, d2, d3, -, -, -, -⟩ := id cD
          go_upto_region 12 with (go_at_call 30; with_reducible refine (kl _).mono ?_; rintro e w1 ⟨rfl, hb⟩)
          refine wp_gen (fun wr => Cells4 wr w.heap.size A ∧ Cells4 wr (w.heap.size + 1) D ∧ Cells4 wr (w.heap.size + 1 + 1) 0 ∧ Cells4 wr (w.heap.size + 1 + 1 + 1) 0 ∧ Cells4 wr (w.heap.size + 1 + 1 + 1 + 1 + 1) (R * 2 + bt A k) ∧ RowI (w.heap.size + 1 + 1 + 1 + 1 + 1 + 1) (top (A / D) (k + 1)) wr ∧ Below w.heap.size w wr) ⟨cA.call hb, cD.call hb, cQ.call hb, cR.call hb, cr.call hb, hl.call hb, bel_call hB hb⟩ ?_
          clear hb w1 r0 r1 r2 r3 r4 r5 r6 r7 d0 d1 d2 d3 cA cD cQ cR cr hl hB kl
          clear wr
          rintro wr ⟨cA, cD, cQ, cR, cr, hl, hB⟩
          obtain ⟨r0, r1, r2, r3, r4, r5, r6, r7⟩ := id cr
          obtain ⟨d0, d1, d2, d3, -, -, -, -⟩ := id cD
          go_upto_region 13 with (go_at_call 26; with_reducible refine (ks _).mono ?_; rintro e w1 ⟨rfl, hb⟩; obtain ⟨hc, hf⟩ := bcell hb; have hs := hb.size; have sr := cr.lt)
          refine wp_gen (fun wr => Cells4 wr w.heap.size A ∧ Cells4 wr (w.heap.size + 1) D ∧ Cells4 wr (w.heap.size + 1 + 1) 0 ∧ Cells4 wr (w.heap.size + 1 + 1 + 1) 0 ∧ Cells4 wr (w.heap.size + 1 + 1 + 1 + 1 + 1) (R * 2 + bt A k - D) ∧ RowI (w.heap.size + 1 + 1 + 1 + 1 + 1 + 1) (top (A / D) (k + 1)) wr ∧ Below w.heap.size w wr) ⟨(cA.call hb).put_other (by omega) _, (cD.call hb).put_other (by omega) _, (cQ.call hb).put_other (by omega) _, (cR.call hb).put_other (by omega) _, (cr.call hb).put _, (hl.call hb).put4 (by omega) _, below_put4 (bel_call hB hb) (by omega) _⟩ ?_
          clear hc hf hs sr hb w1 r0 r1 r2 r3 r4 r5 r6 r7 d0 d1 d2 d3 cA cD cQ cR cr hl hB ks
          clear wr
          rintro wr ⟨cA, cD, cQ, cR, cr, hl, hB⟩
          have lc := hl.cell k (by rw [top_length]; omega)
          have lf := hl.frozen k
          go_wp2
          go_roundw
          case rel => exact ⟨k, by omega, by go_num, cA.set_other (by omega) _, cD.set_other (by omega) _, cQ.set_other (by omega) _, cR.set_other (by omega) _, by rw [B1.out, C.out.2]; exact cr.set_other (by omega) _, by (have hq := top_set (A / D) k; rw [B2.out, C.out.1] at hq; rw [← hq]; exact hl.set k 1), hB.setCell (p := ⟨_, _, none⟩) (by simp; omega) _⟩
          case measure => simp [intOf]
      · have C := Lib.hid (c2 hge)
        have ht := hTM hge
        have hm3 : decide (m (R * 2 + bt A k) < m D) = true := by
          rw [(T2.out ht).1, m_of D (by have := H3.out; omega) H4.out]
          simpa using hge
        have kl := fun w => rless_c (R * 2 + bt A k) D w
        unfold big at kl
        rw [hm3] at kl
        rw [ht]
        clear c1 c2 hTM hge hm3 ht htop
        obtain ⟨r0, r1, r2, r3, r4, r5, r6, r7⟩ := id cr
        obtain ⟨d0, d1, d2, d3, -, -, -, -⟩ := id cD
        go_wp2_with (go_at_call 30; with_reducible refine (kl _).mono ?_; rintro e w1 ⟨rfl, hb⟩)
        go_roundw
        case rel => exact ⟨k, by omega, by go_num, cA.call hb, cD.call hb, cQ.call hb, cR.call hb, by rw [B1.out, C.out.2]; exact cr.call hb, by (rw [← top_stay (A / D) k (by rw [B2.out, C.out.1])]; exact hl.call hb), bel_call hB hb⟩
        case measure => simp [intOf]
theorem rdiv_c (x y : Int) (w : World) :
    Calls Try.prog 15 #[big x, big y] w fun e w' => e = .returned (.tuple #[big (if m y = 0 then 0 else m x / m y), big (if m y = 0 then 0 else m x % m y), .int .i64 (divErr y)]) ∧ Below w.heap.size w w' := by
  unfold divErr
  by_cases h : m y = 0
  · simp only [h, if_true]
    refine rdiv_no x y w fun w => ?_
    have := eq_run y 0 w
    rw [h, show m 0 = 0 from rfl] at this
    exact this
  · simp only [h, if_false]
    rw [← big_m x, ← big_m y]
    refine rdiv_yes (m x) (m y) w (m_nn x) (m_lt x) (by have := m_nn y; omega) (m_lt y) fun w => ?_
    have := eq_run (m y) 0 w
    rw [m_m, show (m y == m 0) = false by rw [show m 0 = 0 from rfl]; simpa using h] at this
    exact this
end Go.Proofs.Ytefnlmiephombaa
