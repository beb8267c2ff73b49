/- Contracts of scantlingref02.OfHash and ToHash. -/
import Derived.Test.YtefnlmiephombaaRh
namespace Go.Proofs.Ytefnlmiephombaa
open Go.RowKit Go.Sort

set_option maxRecDepth 100000 in
set_option maxHeartbeats 1600000 in
theorem rofhash_c (bs : List Int) (hl : bs.length = 32) (hbs : Bytes bs) (w : World) :
    Calls Try.prog 35 #[hsh bs] w fun e w' => e = .returned (big (ofBytes bs)) ∧ Below w.heap.size w w' := by
  obtain ⟨i0, hi, hz0, hz1, hz2⟩ := info_parts Try.info3
  have HL := Lib.hid hl
  clear hl
  unfold big hsh
  go_enter Try.func35, Try.ntmps35
  go_wp2
  refine wp_gen (fun W => RowU w.heap.size bs W ∧ Cells4 W (w.heap.size + 1) 0 ∧ Below w.heap.size w W) ⟨(RowU.new w bs).alloc _, cells4_new' (w.alloc _) _ 0 (by simp), bel_alloc (bel_alloc (Below.refl _ _) _) _⟩ ?_
  rintro W0 ⟨cb0, cb1, hB0⟩
  have hsz0 := hB0.size
  generalize hV : ofBytes bs = V
  have HV := Lib.hid hV
  clear hV
  go_loopw [3, 4] (fun l i wr => ∃ k : Nat, k ≤ 256 ∧ i = .int .i64 k ∧ wr.ownsRow W0.heap.size 3 1 l k ((rowB V k).map (Value.int .i64)) ∧ Below W0.heap.size W0 wr) (fun _ i _ => 256 - (intOf i).toNat)
  case atStart => exact ⟨0, by omega, rfl, World.ownsRow_nil _ _ _ _, Below.refl _ _⟩
  case round =>
    obtain ⟨k, hk, rfl, hown, hB⟩ := hrel
    by_cases hlt : k < 256
    · obtain ⟨j, r, hr, hj, hc⟩ : ∃ j r : Nat, r < 8 ∧ j < 32 ∧ k = 8 * j + r := ⟨k / 8, k % 8, by omega, by omega, by omega⟩
      have hq : (k : Int) / 8 = j := by omega
      have hqN : k / 8 = j := by omega
      have hm : (k : Int) % 8 = r := by omega
      have hmN : k % 8 = r := by omega
      have hcell := (cb0.below hB cb0.lt).cell j (by rw [HL.out]; exact hj)
      have hbit := bt_byte V j r hr
      have hbb : 0 ≤ bs[j]?.getD 0 ∧ bs[j]?.getD 0 ≤ 255 := by
        rw [List.getElem?_eq_getElem (by rw [HL.out]; exact hj)]; exact hbs _ (List.getElem_mem _)
      rw [← HV.out, byteAt_ofBytes _ hbs, HV.out, ← hc] at hbit
      generalize bs[j]?.getD 0 = b at hcell hbit hbb
      have hp := pow_pos' r
      have hand := and_one_u8 (b / 2 ^ r) (Int.ediv_nonneg hbb.1 (by omega)) (Int.le_trans (Int.ediv_le_self _ hbb.1) hbb.2)
      rw [hbit] at hand
      have hbd := bt_bd V k
      have hwr : IntKind.i64.wrap (bt V k) = bt V k := by rw [IntKind.wrap_i64]; omega
      have HC := Lib.hid hc; have HB := Lib.hid hbit
      clear hc hbit hp
      go_wp2_with (at_builtin; refine wpList_append_own _ rfl _ _ 58 rfl W0.heap.size 3 i0 (.int .i64 0) 1 8 Try.underlying58 hi hz0 hz1 hz2 rfl (by decide) _ _ _ rfl (hown.alloc _) ⟨wr.heap.size, 0, none⟩ 1 1 [.int .i64 (bt V k)] rfl rfl ?c1 ?c2 ?c3 ?c4 ?c5 ?_)
      try case c1 => (intro j u hj; rcases j with _ | j <;> simp at hj; subst hj; simp [Addr.add])
      case c2 => first | (intro u hu; simp at hu; subst hu; rfl) | rfl
      case c3 => unfold maxLen; omega
      case c4 => omega
      case c5 => have := hB.size; simp; omega
      intro v' w1 hown' hgrow _
      have hB2 := row_below hown hB hgrow
      rw [show (rowB V k).map (Value.int .i64) ++ [.int .i64 (bt V k)] = (rowB V (k + 1)).map (Value.int .i64) by rw [rowB_succ, List.map_append]; rfl] at hown'
      clear hgrow
      go_wp2
      go_roundw
      case rel => exact ⟨k + 1, by omega, by go_num, hown', hB2⟩
      case measure => simp [intOf]; omega
    · have hk : k = 256 := by omega
      subst hk
      have hl2 : (rowB V 256).length = 256 := rowB_length _ _
      have hfr := from_row W0.heap.size u3 (rowB V 256) (Or.inl hl2) (rowB_bits _ _) wr (by rw [hl2]; exact hown)
      rw [List.take_of_length_le (by omega), ofBits_m, big_m] at hfr
      unfold big at hfr
      have c9 := cb1.call hB
      go_wp2_with (go_at_call 49; with_reducible refine hfr.mono ?_; rintro e w1 ⟨rfl, hb1⟩; obtain ⟨f0, f1, f2, f3, f4, f5, f6, f7⟩ := id (c9.call hb1))
      exact bodyPost_ret (v := .agg #[.int .u64 (L0 V), .int .u64 (L1 V), .int .u64 (L2 V), .int .u64 (L3 V)]) (by simp [results, Try.results35, go_sem, f0, f1, f2, f3]) rfl ⟨by rw [HV.out], below_put4 (bel_call (hB0.trans (hB.mono hsz0)) hb1) (by omega) _⟩

set_option maxRecDepth 100000 in
set_option maxHeartbeats 1600000 in
theorem rtohash_t (v : Int) (w : World) :
    Calls Try.prog 36 #[big v] w fun e w' => e = .returned (hsh (rowK v 256)) ∧ Below w.heap.size w w' := by
  unfold big
  go_enter Try.func36, Try.ntmps36
  go_wp2_with fail
  refine wp_gen (fun W => Cells4 W w.heap.size v ∧ RowU (w.heap.size + 1) (rowK v 0) W ∧ RowU (w.heap.size + 1 + 1) (rowK v 0) W ∧ Below w.heap.size w W) ⟨?_, ?_, ?_, ?_⟩ ?_
  · exact ((cells4_new w v).alloc _).alloc _
  · have := (RowU.new (w.alloc (.cells #[.int .u64 (L0 v), .int .u64 (L1 v), .int .u64 (L2 v), .int .u64 (L3 v)] 24)) (rowK v 0)).alloc (.cells ((rowK v 0).map (Value.int .u8)).toArray 42)
    rw [rowK_zero] at this ⊢
    simpa using this
  · have := RowU.new ((w.alloc (.cells #[.int .u64 (L0 v), .int .u64 (L1 v), .int .u64 (L2 v), .int .u64 (L3 v)] 24)).alloc (.cells ((rowK v 0).map (Value.int .u8)).toArray 42)) (rowK v 0)
    rw [rowK_zero] at this ⊢
    simpa using this
  · exact bel_alloc (bel_alloc (bel_alloc (Below.refl _ _) _) _) _
  rintro W ⟨cA, cR, cO, hB⟩
  go_loopw [4] (fun i wr => ∃ k : Nat, k ≤ 256 ∧ i = .int .i64 k ∧ Cells4 wr w.heap.size v ∧ RowU (w.heap.size + 1) (rowK v 0) wr ∧ RowU (w.heap.size + 1 + 1) (rowK v k) wr ∧ Below w.heap.size w wr) (fun i _ => 256 - (intOf i).toNat)
  case atStart => exact ⟨0, by omega, rfl, cA, cR, cO, hB⟩
  case round =>
    clear cA cR cO hB
    obtain ⟨k, hk, rfl, cA, cR, cO, hB⟩ := hrel
    by_cases hlt : k < 256
    · obtain ⟨j, r, hr, hj, hc⟩ : ∃ j r : Nat, r < 8 ∧ j < 32 ∧ k = 8 * j + r := ⟨k / 8, k % 8, by omega, by omega, by omega⟩
      have hq : (k : Int) / 8 = j := by omega
      have hqN : k / 8 = j := by omega
      have hm : (k : Int) % 8 = r := by omega
      have hmN : k % 8 = r := by omega
      have hcell := cO.cell j (by rw [rowK_length]; exact hj)
      have hfro := cO.frozen j
      have hst := rowK_step v k j r hr hc
      obtain ⟨hb0, hb1⟩ := rowK_bd v k j r hr hc hj
      generalize hcc : (rowK v k)[j]?.getD 0 = c at hcell hst hb0 hb1
      have HCC := Lib.hid hcc
      clear hcc
      have hp := pow_mono (show r ≤ 7 by omega)
      have hp0 := pow_pos' r
      have hp7 : (2 : Int) ^ 7 = 128 := rfl
      have hbd := bt_bd v k
      have hor : bits .or .u8 c (bt v k * 2 ^ r) = c + bt v k * 2 ^ r := by
        have hb01 : bt v k = 0 ∨ bt v k = 1 := by omega
        rcases hb01 with hb | hb <;> rw [hb]
        · rw [Int.zero_mul, Int.add_zero]; exact or_zero_u8 c hb0 (by omega)
        · rw [Int.one_mul]; exact or_bit_u8 c r hr hb0 hb1
      have hbp : 0 ≤ bt v k * 2 ^ r ∧ bt v k * 2 ^ r ≤ 128 := by
        have hb01 : bt v k = 0 ∨ bt v k = 1 := by omega
        rcases hb01 with hb | hb <;> rw [hb] <;> omega
      have hw1 : IntKind.i64.wrap (bt v k * 2 ^ r) = bt v k * 2 ^ r := by rw [IntKind.wrap_i64]; omega
      have hw2 : IntKind.u8.wrap (bt v k * 2 ^ r) = bt v k * 2 ^ r := by rw [IntKind.wrap_u8]; omega
      have HC := Lib.hid hc; have HS := Lib.hid hst
      clear hc hst hp hp7
      obtain ⟨a0, a1, a2, a3, -, -, -, -⟩ := id cA
      have kb : ∀ w, Calls Try.prog 48 #[.agg #[.int .u64 (L0 v), .int .u64 (L1 v), .int .u64 (L2 v), .int .u64 (L3 v)], .int .i64 k] w fun e w' => e = .returned (.int .i64 (bt v k)) ∧ Below w.heap.size w w' := fun w => by
        have := bit_c v k w
        rwa [bitv_nat v k (by omega)] at this
      have hjI : (j : Int) < 32 := by omega
      have hj0 : (0 : Int) ≤ j := by omega
      have hr0 : (0 : Int) ≤ r := by omega
      have hr1 : ¬ (r : Int) < 0 := by omega
      have hwj : IntKind.i64.wrap (j : Int) = j := by rw [IntKind.wrap_i64]; omega
      have htm : (k : Int).tmod 8 = r := by rw [Int.tmod_eq_emod_of_nonneg (by omega)]; omega
      have hwr : IntKind.u64.wrap (r : Int) = r := by rw [IntKind.wrap_u64]; omega
      go_upto_region 5 with (fail)
      go_region_with (go_at_call 48; with_reducible refine (kb _).mono ?_; rintro e w1 ⟨rfl, hb⟩; have hcell1 := (cO.drew.call hb).cell j (by rw [rowK_length]; exact hj); rw [HCC.out] at hcell1; have hfro1 := (cO.drew.call hb).frozen j)
      all_goals (go_wp2; go_roundw)
      all_goals (first
        | exact ⟨k + 1, by omega, by go_num, (cA.drew.call hb).set_other (by omega) _, (cR.drew.call hb).set_other (by omega) _, by (rw [← HS.out]; exact (cO.drew.call hb).set j _), (bel_call (bel_drew hB) hb).setCell (p := ⟨_, j, none⟩) (by simp; omega) _⟩
        | (simp [intOf]; omega))
    · have hk256 : k = 256 := by omega
      subst hk256
      have cO' := cO
      have cR' := cR
      unfold RowU at cO' cR'
      have CO := Lib.hid cO'
      have CR := Lib.hid cR'
      clear cO' cR'
      go_wp2_with (first | (refine wpList_load_row rfl 42 _ rfl _ rfl 42 _ _ _ CO.out Try.underlying42 rfl (info42 _ (by simp [rowK_length])) ?_) | (refine wpList_store_row rfl 42 _ _ rfl _ rfl _ rfl 42 _ CR.out (info42 _ (by simp [rowK_length])) (by simp [rowK_length]) (oneCell_map _) ?_))
      exact bodyPost_ret (v := hsh (rowK v 256)) (results_cell_row rfl _ _ _ 42 _ _ _ rfl (setRow_heap wr _ _ _ 42 _ CR.out) Try.underlying42 rfl (info42 _ (by simp [rowK_length]))) rfl ⟨rfl, below_setRow hB (by omega) _⟩
theorem rtohash_c (x : Int) (w : World) : Calls Try.prog 36 #[big x] w fun e w' => e = .returned (hsh (toBytes (m x))) ∧ Below w.heap.size w w' := by
  have := rtohash_t x w
  rwa [rowK_all] at this
end Go.Proofs.Ytefnlmiephombaa
