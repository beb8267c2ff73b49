/- The contract of scantlingref02.Mul. -/
import Derived.Test.YtefnlmiephombaaRw
namespace Go.Proofs.Ytefnlmiephombaa
open Go.RowKit Go.Sort

/-- of v the first i bits, of u the others -/
def mix (u v : Int) (i n : Nat) : List Int := (List.range n).map fun j => if j < i then bt v j else bt u j
theorem mix_length (u v : Int) (i n : Nat) : (mix u v i n).length = n := by simp [mix]
theorem mix_get (u v : Int) (i n : Nat) (h : i < n) : (mix u v i n)[i]?.getD 0 = bt u i := by simp [mix, h]
theorem mix_set (u v : Int) (i n : Nat) : (mix u v i n).set i (bt v i) = mix u v (i + 1) n := by
  apply List.ext_getElem
  · simp [mix]
  · intro j h1 h2
    simp only [mix, List.getElem_set, List.getElem_map, List.getElem_range]
    by_cases e : i = j
    · subst e; simp
    · rw [if_neg e]
      by_cases hj : j < i
      · rw [if_pos hj, if_pos (by omega)]
      · rw [if_neg hj, if_neg (by omega)]
theorem mix_all (u v : Int) (n : Nat) : mix u v n n = rowB v n := by
  apply List.ext_getElem
  · simp [mix, rowB]
  · intro j h1 h2
    simp only [mix, rowB, List.getElem_map, List.getElem_range]
    rw [if_pos (by simpa [mix] using h1)]
theorem mix_start (u v : Int) (i n : Nat) (h : ∀ j, j < i → bt v j = bt u j) : mix u v i n = rowB u n := by
  apply List.ext_getElem
  · simp [mix, rowB]
  · intro j h1 h2
    simp only [mix, rowB, List.getElem_map, List.getElem_range]
    by_cases hj : j < i
    · rw [if_pos hj, h j hj]
    · rw [if_neg hj]
theorem bitv_up' (x : Int) (h0 : 0 ≤ x) (h1 : x < M) (n k : Nat) : bitv x ((k : Int) - n) = bt (x * 2 ^ n) k := by
  by_cases hk : (k : Int) - n < 256
  · rw [bt_up]
    unfold bitv
    by_cases h : k < n
    · rw [if_pos h, if_pos (by omega)]
    · rw [if_neg h, if_neg (by omega), show ((k : Int) - n).toNat = k - n by omega]
  · rw [bt_up, if_neg (by omega), bt_high x h0 (k - n) 256 (by rw [← M_two]; exact h1) (by omega)]
    exact if_pos (by omega)
theorem rowB_take (v : Int) (i n : Nat) (h : i ≤ n) : (rowB v n).take i = rowB v i := by
  unfold rowB
  rw [← List.map_take, List.take_range, Nat.min_eq_left h]
theorem low_bits (t x : Int) (k j : Nat) (h : j < k) : bt (t + x * 2 ^ k) j = bt t j := by
  unfold bt
  have hp := pow_pos' j
  have e : (2 : Int) ^ k = 2 ^ j * (2 * 2 ^ (k - j - 1)) := by
    conv => lhs; rw [show k = j + (1 + (k - j - 1)) by omega, Int.pow_add, Int.pow_add]
    rfl
  rw [e, Int.mul_left_comm, Int.add_mul_ediv_left _ _ (by omega), Int.mul_left_comm]
  omega
theorem cy_low (t x : Int) (k : Nat) : cy t (x * 2 ^ k) k = 0 := by
  have hp := pow_pos' k
  unfold cy
  rw [Int.mul_emod_left, Int.add_zero]
  exact Int.ediv_eq_zero_of_lt (Int.emod_nonneg _ (by omega)) (Int.emod_lt_of_pos _ hp)
theorem mul_step (x n : Int) (k : Nat) : x * (n % 2 ^ (k + 1)) = x * (n % 2 ^ k) + bt n k * (x * 2 ^ k) := by
  rw [mod_succ, Int.mul_add, Int.mul_left_comm]
theorem or_zero (a : Int) (h0 : 0 ≤ a) (h1 : a ≤ 18446744073709551615) : bits .or .u64 a 0 = a := by
  obtain ⟨a, rfl⟩ := Int.eq_ofNat_of_zero_le h0
  have := bits_or_u64 a 0 (by omega) (by omega)
  simpa using this

theorem mk320' (w : World) : (Instr.makeSlice 58 (.int .i64 320) (.int .i64 320)).run Try.prog w = .ok (.slice (some ⟨w.heap.size, 0, none⟩) 320 320) (w.alloc (.cells ((List.replicate 320 0).map (Value.int .i64)).toArray 3)) := by
  kernel_rfl
theorem row0 (n : Nat) : rowB 0 n = List.replicate n 0 := by
  unfold rowB
  apply List.ext_getElem
  · simp
  · intro j h1 h2
    simp [bt]
theorem mk320 (w : World) : (Instr.makeSlice 58 (.int .i64 320) (.int .i64 320)).run Try.prog w = .ok (.slice (some ⟨w.heap.size, 0, none⟩) 320 320) (w.alloc (.cells ((rowB 0 320).map (Value.int .i64)).toArray 3)) := by
  rw [row0]
  exact mk320' w

set_option maxRecDepth 100000 in
set_option maxHeartbeats 3200000 in
theorem rmul_t (x n : Int) (hx : 0 ≤ x) (hx' : x < M) (hn : 0 ≤ n) (hn' : n ≤ 18446744073709551615) (w : World) :
    Calls Try.prog 28 #[big x, .int .u64 n] w fun e w' => e = .returned (.tuple #[big (x * n), .int .u64 (x * n / M)]) ∧ Below w.heap.size w w' := by
  have hmk := mk320
  have hT0 : rowB 0 320 = rowB (x * (n % 2 ^ 0)) 320 := by simp
  have HM := Lib.hid hmk
  unfold big
  go_enter Try.func28, Try.ntmps28
  go_wp2
  refine wp_gen (fun W => Cells4 W w.heap.size x ∧ Cells4 W (w.heap.size + 1) 0 ∧ RowI (w.heap.size + 1 + 1) (rowB (x * (n % 2 ^ 0)) 320) W ∧ Below w.heap.size w W) ⟨((cells4_new w x).alloc _).alloc _, (cells4_new' (w.alloc _) _ 0 (by simp)).alloc _, ?_, bel_alloc (bel_alloc (bel_alloc (Below.refl _ _) _) _) _⟩ ?_
  · have := RowI.new ((w.alloc (.cells #[.int .u64 (L0 x), .int .u64 (L1 x), .int .u64 (L2 x), .int .u64 (L3 x)] 24)).alloc (.cells #[.int .u64 0, .int .u64 0, .int .u64 0, .int .u64 0] 24)) (rowB (x * (n % 2 ^ 0)) 320)
    simpa using this
  clear hmk hT0
  rintro W0 ⟨cx, cz, hr, hB⟩
  go_loopw [7] (fun i wr => ∃ k : Nat, k ≤ 64 ∧ i = .int .i64 k ∧ Cells4 wr w.heap.size x ∧ Cells4 wr (w.heap.size + 1) 0 ∧ RowI (w.heap.size + 1 + 1) (rowB (x * (n % 2 ^ k)) 320) wr ∧ Below w.heap.size w wr) (fun i _ => 64 - (intOf i).toNat)
  case atStart => exact ⟨0, by omega, rfl, cx, cz, hr, hB⟩
  case round =>
    clear cx cz hr hB
    obtain ⟨k, hk, rfl, cx, cz, hr, hB⟩ := hrel
    by_cases hlt : k < 64
    · have ha := bits_and_one (n / 2 ^ k) (Int.ediv_nonneg hn (by have := pow_pos' k; omega))
      have hst := mul_step x n k
      have hbd := bt_bd n k
      by_cases hb : bt n k = 0
      · rw [show n / 2 ^ k % 2 = 0 from hb] at ha
        rw [hb, Int.zero_mul, Int.add_zero] at hst
        have HS := Lib.hid hst
        clear hst hbd hb
        go_wp2
        go_roundw
        case rel => exact ⟨k + 1, by omega, by go_num, cx, cz, by rw [HS.out]; exact hr, hB⟩
        case measure => simp [intOf]; omega
      · have hb1 : bt n k = 1 := by omega
        rw [show n / 2 ^ k % 2 = 1 from hb1] at ha
        rw [hb1, Int.one_mul] at hst
        have HS := Lib.hid hst
        have hms := mix_start (x * (n % 2 ^ k)) (x * (n % 2 ^ k) + x * 2 ^ k) k 320 fun j hj => low_bits _ x k j hj
        have hc0 := cy_low (x * (n % 2 ^ k)) x k
        rw [← hms] at hr
        generalize x * (n % 2 ^ k) = T at hr hc0 HS
        clear hst hbd hb hb1 hms
        have HX := Lib.hid hx; have HX' := Lib.hid hx'
        clear hx hx'
        go_wp2
        have HA := Lib.hid ha
        clear ha
        go_loopw [8, 9] (fun mo i wr => ∃ j : Nat, k ≤ j ∧ j ≤ 320 ∧ i = .int .i64 j ∧ mo = .int .i64 (cy T (x * 2 ^ k) j) ∧ Cells4 wr w.heap.size x ∧ Cells4 wr (w.heap.size + 1) 0 ∧ RowI (w.heap.size + 1 + 1) (mix T (T + x * 2 ^ k) j 320) wr ∧ Below w.heap.size w wr) (fun _ i _ => 320 - (intOf i).toNat)
        case atStart => exact ⟨k, by omega, by omega, rfl, by rw [hc0], cx, cz, hr, hB⟩
        case round =>
          clear cx cz hr hB
          obtain ⟨j, hkj, hj, rfl, rfl, cx, cz, hr, hB⟩ := hrel
          by_cases hlt2 : j < 320
          · obtain ⟨s1, s2⟩ := cy_step T (x * 2 ^ k) j
            have ax := bt_bd T j
            have ay := bt_bd (x * 2 ^ k) j
            have ac := cy_bd T (x * 2 ^ k) j
            have kx : ∀ w, Calls Try.prog 48 #[.agg #[.int .u64 (L0 x), .int .u64 (L1 x), .int .u64 (L2 x), .int .u64 (L3 x)], .int .i64 ((j : Int) - k)] w fun e w' => e = .returned (.int .i64 (bt (x * 2 ^ k) j)) ∧ Below w.heap.size w w' := fun w => by
              have := bit_c x ((j : Int) - k) w
              rwa [bitv_up' x HX.out HX'.out k j] at this
            have w0 : IntKind.i64.wrap ((j : Int) - k) = (j : Int) - k := by rw [IntKind.wrap_i64]; omega
            have w1 : IntKind.i64.wrap (bt T j + bt (x * 2 ^ k) j) = bt T j + bt (x * 2 ^ k) j := by rw [IntKind.wrap_i64]; omega
            have w2 : IntKind.i64.wrap (bt T j + bt (x * 2 ^ k) j + cy T (x * 2 ^ k) j) = bt T j + bt (x * 2 ^ k) j + cy T (x * 2 ^ k) j := by rw [IntKind.wrap_i64]; omega
            have w3 : 0 ≤ bt T j + bt (x * 2 ^ k) j + cy T (x * 2 ^ k) j := by omega
            have k10 := fun d os => (cx.regrown d os).c0
            have k11 := fun d os => (cx.regrown d os).c1
            have k12 := fun d os => (cx.regrown d os).c2
            have k13 := fun d os => (cx.regrown d os).c3
            have kr : ∀ d os, (grow (redrawn wr d) os).cell? ⟨w.heap.size + 1 + 1, j, none⟩ = some (.int .i64 (bt T j)) := fun d os => by
              have := (hr.call (below_regrown wr d os)).cell j (by rw [mix_length]; exact hlt2)
              rwa [mix_get _ _ _ _ hlt2] at this
            have q1 := quiet_call wr kx
            go_upto_region 10 with (fail)
            refine wp_region_quiet_below (by kernel_rfl) (by kernel_rfl) ?_
            repeat (go_big_quiet_step ((first | with_reducible exact q1 _ _)))
            refine wpQuiet_nil ?_
            intro W1 hw'
            have dx : Cells4 W1 w.heap.size x := by obtain ⟨p, rfl⟩ := hw'; exact cx.regrown _ _
            have dz : Cells4 W1 (w.heap.size + 1) 0 := by obtain ⟨p, rfl⟩ := hw'; exact cz.regrown _ _
            have dr : RowI (w.heap.size + 1 + 1) (mix T (T + x * 2 ^ k) j 320) W1 := by obtain ⟨p, rfl⟩ := hw'; exact hr.call (below_regrown wr _ _)
            have hB1 : Below w.heap.size w W1 := by obtain ⟨p, rfl⟩ := hw'; exact bel_call hB (below_regrown wr _ _)
            clear hw' k10 k11 k12 k13 kr q1 kx cx cz hr hB
            clear wr
            have cr := dr.cell j (by rw [mix_length]; exact hlt2)
            have fr := dr.frozen j
            go_wp2
            go_roundw
            case rel =>
              refine ⟨j + 1, by omega, by omega, by go_num, by rw [s2], dx.set_other (by omega) _, dz.set_other (by omega) _, ?_, hB1.setCell (p := ⟨_, _, none⟩) (by simp; omega) _⟩
              have := dr.set j (bt (T + x * 2 ^ k) j)
              rwa [mix_set] at this
            case measure => simp [intOf]; omega
          · have hj2 : j = 320 := by omega
            subst hj2
            rw [mix_all] at hr
            go_wp2
            go_roundw
            case rel => exact ⟨k + 1, by omega, by go_num, cx, cz, by rw [HS.out]; exact hr, hB⟩
            case measure => simp [intOf]; omega
    · have hk : k = 64 := by omega
      subst hk
      have hn64 : n % 2 ^ 64 = n := Int.emod_eq_of_lt hn (by omega)
      rw [hn64] at hr
      have HX := Lib.hid hx; have HX' := Lib.hid hx'; have HN := Lib.hid hn; have HN' := Lib.hid hn'
      clear hx hx' hn hn' hn64
      go_wp2
      generalize hT : x * n = T at hr
      have HT := Lib.hid hT
      clear hT
      go_loopw [11, 12] (fun ov i wr => ∃ j : Nat, j ≤ 64 ∧ i = .int .i64 j ∧ ov = .int .u64 (T / M % 2 ^ j) ∧ Cells4 wr (w.heap.size + 1) 0 ∧ RowI (w.heap.size + 1 + 1) (rowB T 320) wr ∧ Below w.heap.size w wr) (fun _ i _ => 64 - (intOf i).toNat)
      case atStart => exact ⟨0, by omega, rfl, by simp, cz, hr, hB⟩
      case round =>
        clear cx cz hr hB
        obtain ⟨j, hj, rfl, rfl, cz, hr, hB⟩ := hrel
        by_cases hlt2 : j < 64
        · have hst := mod_succ (T / M) j
          have hbt : bt T (256 + j) = bt (T / M) j := by rw [M_two, bt_down, Nat.add_comm]
          have hp := pow_pos' j
          have a0 := Int.emod_nonneg (T / M) (b := 2 ^ j) (by omega)
          have a1 := Int.emod_lt_of_pos (T / M) hp
          obtain ⟨o1, o2, o3⟩ := or_bit (T / M % 2 ^ j) j hlt2 a0 a1
          have o4 := or_zero (T / M % 2 ^ j) a0 (by omega)
          have cr := hr.cell (256 + j) (by rw [rowB_length]; omega)
          have hg : (rowB T 320)[256 + j]?.getD 0 = bt T (256 + j) := by
            simp only [rowB, List.getElem?_map, List.getElem?_range (show 256 + j < 320 by omega)]; rfl
          rw [hg, hbt] at cr
          have w1 : IntKind.i64.wrap (256 + (j : Int)) = 256 + (j : Int) := by rw [IntKind.wrap_i64]; omega
          have hbd := bt_bd (T / M) j
          have h01 : bt (T / M) j = 0 ∨ bt (T / M) j = 1 := by omega
          have w2 : (0 : Int) ≤ 256 + (j : Int) := by omega
          have w3 : 256 + (j : Int) < 320 := by omega
          have w4 : (256 + (j : Int)).toNat = 256 + j := by omega
          rcases h01 with hb | hb
          · rw [hb] at cr
            rw [hb, Int.zero_mul, Int.add_zero] at hst
            have HS := Lib.hid hst
            clear hst hbd hb hbt hg a0 a1 o1 o2 o3
            go_wp2
            go_roundw
            case rel => exact ⟨j + 1, by omega, by go_num, by rw [HS.out], cz, hr, hB⟩
            case measure => simp [intOf]; omega
          · rw [hb] at cr
            rw [hb, Int.one_mul] at hst
            have HS := Lib.hid hst
            clear hst hbd hb hbt hg a0 a1 o2 o3 o4
            go_wp2
            go_roundw
            case rel => exact ⟨j + 1, by omega, by go_num, by rw [HS.out], cz, hr, hB⟩
            case measure => simp [intOf]; omega
        · have hj2 : j = 64 := by omega
          subst hj2
          have hl : (rowB T 320).length = 320 := rowB_length _ _
          have hfr := from_row (w.heap.size + 1 + 1) (.slice (some ⟨w.heap.size + 1 + 1, 0, none⟩) (rowB T 320).length (rowB T 320).length) (rowB T 320) (Or.inr hl) (rowB_bits _ _) wr (hr.owns _ (Nat.le_refl _) (by omega))
          rw [rowB_take _ _ _ (by omega), ofBits_m, big_m, hl] at hfr
          unfold big at hfr
          have hov : T / M % 2 ^ 64 = T / M := by
            rw [← HT.out]
            have h0 : 0 ≤ x * n := Int.mul_nonneg HX.out HN.out
            have hM : 0 < M := by decide +kernel
            have h1 : x * n < M * 2 ^ 64 := by
              have h2 : x * n ≤ x * 18446744073709551615 := Int.mul_le_mul_of_nonneg_left HN'.out HX.out
              have := HX'.out
              omega
            exact Int.emod_eq_of_lt (Int.ediv_nonneg h0 (by omega)) (Int.ediv_lt_of_lt_mul hM (by first | exact h1 | (rw [Int.mul_comm]; exact h1)))
          have HO := Lib.hid hov
          clear hov
          go_wp2_with (go_at_call 49; with_reducible refine hfr.mono ?_; rintro e w1 ⟨rfl, hb1⟩; obtain ⟨f0, f1, f2, f3, f4, f5, f6, f7⟩ := id (cz.call hb1))
          exact bodyPost_ret (v := .tuple #[.agg #[.int .u64 (L0 T), .int .u64 (L1 T), .int .u64 (L2 T), .int .u64 (L3 T)], .int .u64 (T / M % 2 ^ 64)]) (by simp [results, Try.results28, go_sem, f0, f1, f2, f3]) rfl ⟨by rw [HT.out, HO.out], below_put4 (bel_call hB hb1) (by omega) _⟩
theorem rmul_c (x n : Int) (hn : 0 ≤ n) (hn' : n ≤ 18446744073709551615) (w : World) :
    Calls Try.prog 28 #[big x, .int .u64 n] w fun e w' => e = .returned (.tuple #[big (x * n), .int .u64 (m x * n / M)]) ∧ Below w.heap.size w w' := by
  have := rmul_t (m x) n (m_nn x) (m_lt x) hn hn' w
  rwa [big_m, show big (m x * n) = big (x * n) from big_shift _ _ (m_mul x n)] at this
end Go.Proofs.Ytefnlmiephombaa
