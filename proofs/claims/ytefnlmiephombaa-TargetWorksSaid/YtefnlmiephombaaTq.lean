/- The contracts of target.Sum and scantlingref03.Sum. -/
import Derived.Test.YtefnlmiephombaaTl
import Derived.Test.YtefnlmiephombaaRa
import Derived.Lib.Hide
namespace Go.Proofs.Ytefnlmiephombaa
open Go.RowKit Go.Sort

/-- numbers in a row, four cells each -/
def BigsAt (w : World) (g o len : Nat) (N : Nat → Int) : Prop := ∀ i, i < len →
  w.cell? ⟨g, o + i * 4, none⟩ = some (.int .u64 (L0 (N i))) ∧ w.cell? ⟨g, o + i * 4 + 1, none⟩ = some (.int .u64 (L1 (N i))) ∧
  w.cell? ⟨g, o + i * 4 + 2, none⟩ = some (.int .u64 (L2 (N i))) ∧ w.cell? ⟨g, o + i * 4 + 3, none⟩ = some (.int .u64 (L3 (N i)))
theorem cell_keep {W w' : World} {a : Addr} {v : Value} (h : W.cell? a = some v) (hb : Below W.heap.size W w') : w'.cell? a = some v := by
  rw [hb.cell (block_lt_of_cell h)]; exact h
theorem BigsAt.call {w w' : World} {g o len : Nat} {N : Nat → Int} (h : BigsAt w g o len N) (hb : Below w.heap.size w w') : BigsAt w' g o len N := fun i hi =>
  let ⟨a, b, c, d⟩ := h i hi
  ⟨cell_keep a hb, cell_keep b hb, cell_keep c hb, cell_keep d hb⟩
theorem BigsAt.below {B : Nat} {w w' : World} {g o len : Nat} {N : Nat → Int} (h : BigsAt w g o len N) (hb : Below B w w') (hg : g < B) : BigsAt w' g o len N := fun i hi => by
  obtain ⟨a, b, c, d⟩ := h i hi
  exact ⟨by rw [hb.cell hg]; exact a, by rw [hb.cell hg]; exact b, by rw [hb.cell hg]; exact c, by rw [hb.cell hg]; exact d⟩
theorem BigsAt.alloc {w : World} {g o len : Nat} {N : Nat → Int} (h : BigsAt w g o len N) (x : Obj) : BigsAt (w.alloc x) g o len N := h.call (bel_alloc (Below.refl _ _) _)
def sumN (N : Nat → Int) : Nat → Int
  | 0 => 0
  | k + 1 => sumN N k + N k
def sumO (N : Nat → Int) : Nat → Bool
  | 0 => false
  | k + 1 => sumO N k || decide (M ≤ m (sumN N k) + m (N k))

set_option maxRecDepth 100000 in
set_option maxHeartbeats 4000000 in
theorem tsum_c (p : Option Addr) (g o : Nat) (len cap : Nat) (N : Nat → Int) (hp : 0 < len → p = some ⟨g, o, none⟩) (hl : len ≤ 1000) (w : World) (hb : BigsAt w g o len N) :
    Calls Try.prog 44 #[.slice p len cap] w fun e w' => e = .returned (.tuple #[.agg #[.int .u64 (L0 (sumN N len)), .int .u64 (L1 (sumN N len)), .int .u64 (L2 (sumN N len)), .int .u64 (L3 (sumN N len))], .bool (sumO N len)]) ∧ Below w.heap.size w w' := by
  have hg0 : 0 < len → g < w.heap.size := fun h => block_lt_of_cell (hb 0 h).1
  go_enter Try.func44, Try.ntmps44
  go_wp2
  refine wp_gen (fun W => Cells4 W w.heap.size 0 ∧ Cells4 W (w.heap.size + 1) (sumN N 0) ∧ BigsAt W g o len N ∧ Below w.heap.size w W) ⟨(cells4_new' w _ 0 (by simp)).alloc _, cells4_new' (w.alloc _) _ 0 (by simp), (hb.alloc _).alloc _, bel_alloc (bel_alloc (Below.refl _ _) _) _⟩ ?_
  clear hb
  rintro W0 ⟨c0, c1, c2, hB⟩
  go_loopw [5, 12] (fun b i wr => ∃ k : Nat, k ≤ len ∧ i = .int .i64 k ∧ b = .bool (sumO N k) ∧ Cells4 wr w.heap.size 0 ∧ Cells4 wr (w.heap.size + 1) (sumN N k) ∧ BigsAt wr g o len N ∧ Below w.heap.size w wr) (fun _ i _ => len - (intOf i).toNat)
  case atStart => exact ⟨0, by omega, rfl, rfl, c0, c1, c2, hB⟩
  case round =>
    clear c0 c1 c2 hB
    obtain ⟨k, hk, rfl, rfl, c0, c1, c2, hB⟩ := hrel
    by_cases hlt : k < len
    · refine wp_gen (fun W => Cells4 W w.heap.size 0 ∧ Cells4 W (w.heap.size + 1) (sumN N k) ∧ BigsAt W g o len N ∧ Below w.heap.size w W) ⟨c0, c1, c2, hB⟩ ?_
      clear c0 c1 c2 hB
      clear wr
      rintro W ⟨c0, c1, c2, hB⟩
      obtain rfl : p = some ⟨g, o, none⟩ := hp (by omega)
      obtain ⟨y0, y1, y2, y3⟩ := id (c2 k hlt)
      have ka := fun w => add_c (sumN N k) (N k) w
      unfold big at ka
      generalize hS : sumN N k = S at ka c1
      generalize hO : sumO N k = ob
      generalize hov : decide (M ≤ m S + m (N k)) = ov at ka
      have HS := Lib.hid hS; have HO := Lib.hid hO; have HV := Lib.hid hov
      clear hS hO hov
      generalize hx : N k = x at ka y0 y1 y2 y3
      have HX := Lib.hid hx
      clear hx
      have hO1 : sumO N (k + 1) = (ob || ov) := by show (sumO N k || decide (M ≤ m (sumN N k) + m (N k))) = _; rw [HO.out, HS.out, HV.out]
      have hS1 : sumN N (k + 1) = S + x := by show sumN N k + N k = _; rw [HS.out, HX.out]
      have HO1 := Lib.hid hO1; have HS1 := Lib.hid hS1
      clear hO1 hS1 HS HO HV HX
      have hg := hg0 (by omega)
      go_upto_region 6 with (fail)
      refine wp_gen (fun V => Cells4 V w.heap.size 0 ∧ Cells4 V (w.heap.size + 1) S ∧ BigsAt V g o len N ∧ Cells4 V W.heap.size x ∧ Below w.heap.size w V) ⟨c0.alloc _, c1.alloc _, c2.alloc _, cells4_new _ _, bel_alloc hB _⟩ ?_
      clear y0 y1 y2 y3 c0 c1 c2 hB
      generalize W.heap.size = e7
      clear W
      rintro W ⟨c0, c1, c2, c3, hB⟩
      obtain ⟨z0, z1, z2, z3, -, -, -, -⟩ := id c1
      obtain ⟨x30, x31, x32, x33, -, -, -, -⟩ := id c3
      go_upto_region 7 with (go_at_call 21; with_reducible refine (ka _).mono ?_; rintro e w1 ⟨rfl, hb1⟩)
      refine wp_gen (fun V => Cells4 V w.heap.size 0 ∧ Cells4 V (w.heap.size + 1) S ∧ BigsAt V g o len N ∧ Cells4 V w1.heap.size (S + x) ∧ Below w.heap.size w V) ⟨(c0.call hb1).alloc _, (c1.call hb1).alloc _, (c2.call hb1).alloc _, cells4_new _ _, bel_alloc (bel_call hB hb1) _⟩ ?_
      clear z0 z1 z2 z3 x30 x31 x32 x33 c0 c1 c2 c3 hB hb1
      generalize w1.heap.size = e8
      clear w1 W
      rintro W ⟨c0, c1, c2, c3, hB⟩
      obtain ⟨z0, z1, z2, z3, f0, f1, f2, f3⟩ := id c1
      obtain ⟨x30, x31, x32, x33, -, -, -, -⟩ := id c3
      cases ob
      all_goals (go_wp2; go_roundw)
      all_goals (first
        | exact ⟨k + 1, by omega, by go_num, by rw [HO1.out]; rfl, c0.put_other (by omega) _, by (rw [HS1.out]; exact c1.put _), c2.below (below_put4 (Below.refl w.heap.size W) (by omega) _) hg, below_put4 hB (by omega) _⟩
        | (simp [intOf]; omega))
    · obtain rfl : k = len := by omega
      obtain ⟨z0, z1, z2, z3, -, -, -, -⟩ := id c1
      obtain ⟨x0, x1, x2, x3, f0, f1, f2, f3⟩ := id c0
      generalize hS2 : sumN N k = S at c1 z0 z1 z2 z3 ⊢
      generalize hO2 : sumO N k = ob
      have HS2 := Lib.hid hS2; have HO2 := Lib.hid hO2
      clear hS2 hO2
      go_wp2
      exact bodyPost_ret (v := .tuple #[.agg #[.int .u64 (L0 S), .int .u64 (L1 S), .int .u64 (L2 S), .int .u64 (L3 S)], .bool ob]) (by simp [results, Try.results44, go_sem, x0, x1, x2, x3]) rfl ⟨by rw [HS2.out, HO2.out], below_put4 hB (Nat.le_refl _) _⟩

set_option maxRecDepth 100000 in
set_option maxHeartbeats 4000000 in
theorem rsum_c (p : Option Addr) (g o : Nat) (len cap : Nat) (N : Nat → Int) (hp : 0 < len → p = some ⟨g, o, none⟩) (hl : len ≤ 1000) (w : World) (hb : BigsAt w g o len N) :
    Calls Try.prog 45 #[.slice p len cap] w fun e w' => e = .returned (.tuple #[.agg #[.int .u64 (L0 (sumN N len)), .int .u64 (L1 (sumN N len)), .int .u64 (L2 (sumN N len)), .int .u64 (L3 (sumN N len))], .bool (sumO N len)]) ∧ Below w.heap.size w w' := by
  have hg0 : 0 < len → g < w.heap.size := fun h => block_lt_of_cell (hb 0 h).1
  go_enter Try.func45, Try.ntmps45
  go_wp2
  refine wp_gen (fun W => Cells4 W w.heap.size 0 ∧ Cells4 W (w.heap.size + 1) (sumN N 0) ∧ BigsAt W g o len N ∧ Below w.heap.size w W) ⟨(cells4_new' w _ 0 (by simp)).alloc _, cells4_new' (w.alloc _) _ 0 (by simp), (hb.alloc _).alloc _, bel_alloc (bel_alloc (Below.refl _ _) _) _⟩ ?_
  clear hb
  rintro W0 ⟨c0, c1, c2, hB⟩
  go_loopw [5, 6] (fun b i wr => ∃ k : Nat, k ≤ len ∧ i = .int .i64 k ∧ b = .bool (sumO N k) ∧ Cells4 wr w.heap.size 0 ∧ Cells4 wr (w.heap.size + 1) (sumN N k) ∧ BigsAt wr g o len N ∧ Below w.heap.size w wr) (fun _ i _ => len - (intOf i).toNat)
  case atStart => exact ⟨0, by omega, rfl, rfl, c0, c1, c2, hB⟩
  case round =>
    clear c0 c1 c2 hB
    obtain ⟨k, hk, rfl, rfl, c0, c1, c2, hB⟩ := hrel
    by_cases hlt : k < len
    · refine wp_gen (fun W => Cells4 W w.heap.size 0 ∧ Cells4 W (w.heap.size + 1) (sumN N k) ∧ BigsAt W g o len N ∧ Below w.heap.size w W) ⟨c0, c1, c2, hB⟩ ?_
      clear c0 c1 c2 hB
      clear wr
      rintro W ⟨c0, c1, c2, hB⟩
      obtain rfl : p = some ⟨g, o, none⟩ := hp (by omega)
      obtain ⟨y0, y1, y2, y3⟩ := id (c2 k hlt)
      have ka := fun w => radd_c (sumN N k) (N k) w
      unfold big at ka
      generalize hS : sumN N k = S at ka c1
      generalize hO : sumO N k = ob
      generalize hov : decide (M ≤ m S + m (N k)) = ov at ka
      have HS := Lib.hid hS; have HO := Lib.hid hO; have HV := Lib.hid hov
      clear hS hO hov
      generalize hx : N k = x at ka y0 y1 y2 y3
      have HX := Lib.hid hx
      clear hx
      have hO1 : sumO N (k + 1) = (ob || ov) := by show (sumO N k || decide (M ≤ m (sumN N k) + m (N k))) = _; rw [HO.out, HS.out, HV.out]
      have hS1 : sumN N (k + 1) = S + x := by show sumN N k + N k = _; rw [HS.out, HX.out]
      have HO1 := Lib.hid hO1; have HS1 := Lib.hid hS1
      clear hO1 hS1 HS HO HV HX
      go_upto_region 6 with (fail)
      have hg := hg0 (by omega)
      obtain ⟨x10, x11, x12, x13, -, -, -, -⟩ := id c1
      go_cut [7, 8] (fun s7 s8 wx => ∃ e7 : Nat, s7 = .pointer (some ⟨e7, 0, none⟩) ∧ s8 = .bool ov ∧ Cells4 wx (w.heap.size) 0 ∧ Cells4 wx (w.heap.size + 1) S ∧ BigsAt wx g o len N ∧ Cells4 wx e7 (S + x) ∧ Below w.heap.size w wx)
      case first =>
        have mk : ∀ w', Below W.heap.size W w' → w'.cell? ⟨w.heap.size + 1, 0, none⟩ = some (.int .u64 (L0 S)) ∧ w'.cell? ⟨w.heap.size + 1, 1, none⟩ = some (.int .u64 (L1 S)) ∧ w'.cell? ⟨w.heap.size + 1, 2, none⟩ = some (.int .u64 (L2 S)) ∧ w'.cell? ⟨w.heap.size + 1, 3, none⟩ = some (.int .u64 (L3 S)) ∧ w'.cell? ⟨g, o + k * 4, none⟩ = some (.int .u64 (L0 x)) ∧ w'.cell? ⟨g, o + k * 4 + 1, none⟩ = some (.int .u64 (L1 x)) ∧ w'.cell? ⟨g, o + k * 4 + 2, none⟩ = some (.int .u64 (L2 x)) ∧ w'.cell? ⟨g, o + k * 4 + 3, none⟩ = some (.int .u64 (L3 x)) := fun w' hb' => ⟨(c1.call hb').c0, (c1.call hb').c1, (c1.call hb').c2, (c1.call hb').c3, cell_keep y0 hb', cell_keep y1 hb', cell_keep y2 hb', cell_keep y3 hb'⟩
        go_region_held3 (fun w' => w'.cell? ⟨w.heap.size + 1, 0, none⟩ = some (.int .u64 (L0 S)) ∧ w'.cell? ⟨w.heap.size + 1, 1, none⟩ = some (.int .u64 (L1 S)) ∧ w'.cell? ⟨w.heap.size + 1, 2, none⟩ = some (.int .u64 (L2 S)) ∧ w'.cell? ⟨w.heap.size + 1, 3, none⟩ = some (.int .u64 (L3 S)) ∧ w'.cell? ⟨g, o + k * 4, none⟩ = some (.int .u64 (L0 x)) ∧ w'.cell? ⟨g, o + k * 4 + 1, none⟩ = some (.int .u64 (L1 x)) ∧ w'.cell? ⟨g, o + k * 4 + 2, none⟩ = some (.int .u64 (L2 x)) ∧ w'.cell? ⟨g, o + k * 4 + 3, none⟩ = some (.int .u64 (L3 x))) (first | (with_reducible refine mk _ ?_; repeat (first | with_reducible exact Below.refl _ _ | with_reducible refine bel_drew ?_ | with_reducible refine bel_alloc ?_ _ | with_reducible refine bel_set ?_ _ _ (Nat.le_refl _) _ | with_reducible refine hq1 ?_ | with_reducible refine bel_set ?_ _ _ hz1 _)) | fail) (first | (go_at_call 25; with_reducible refine (ka _).mono ?_; rintro e w1 ⟨rfl, hb1⟩; have hq1 : Below W.heap.size W _ → Below W.heap.size W w1 := fun h => bel_call h hb1; have hv1 : ∀ b v, Cells4 _ b v → Cells4 w1 b v := fun _ _ h => h.call hb1; have hs1 := hb1.size; (try (have hy1_0_0 : W.heap.size < w1.heap.size := by (have hh := hb1.size; (try simp at hh); omega))); obtain ⟨hc1, hf1⟩ := bcell hb1; have hz1 : W.heap.size ≤ w1.heap.size := by (have hh := hb1.size; (try simp at hh); omega)) | fail)
        all_goals (go_wp2_with fail; go_meet)
        all_goals refine (fun (h1 : Below W.heap.size W _) (k7 : Cells4 _ _ (S + x)) => ⟨_, rfl, rfl, c0.call h1, c1.call h1, c2.call h1, k7, bel_call hB h1⟩) ?_ ?_
        all_goals (first | (with_reducible refine Below.trans (Below.refl _ _) ?_; repeat (first | with_reducible exact Below.refl _ _ | with_reducible refine bel_drew ?_ | with_reducible refine bel_alloc ?_ _ | with_reducible refine bel_set ?_ _ _ (Nat.le_refl _) _ | with_reducible refine hq1 ?_ | with_reducible refine bel_set ?_ _ _ hz1 _)) | (repeat (first | with_reducible exact cells4_zero _ | with_reducible exact cells4_new _ _ | with_reducible refine Cells4.alloc ?_ _ | with_reducible refine Cells4.drew ?_ | with_reducible refine hv1 _ _ ?_ | with_reducible refine cells4_puts (u := 0) ?_ _)))
      case' rest =>
        obtain ⟨e7, rfl, rfl, nc0, nc1, nc2, nc3, hB'⟩ := hcut
        clear c0 c1 c2 hB x10 x11 x12 x13 y0 y1 y2 y3
        clear W
        go_upto_region 7 with (fail)
        refine wp_gen (fun W => Cells4 W (w.heap.size) 0 ∧ Cells4 W (w.heap.size + 1) S ∧ BigsAt W g o len N ∧ Cells4 W e7 (S + x) ∧ Below w.heap.size w W) ⟨nc0, nc1, nc2, nc3, hB'⟩ ?_
        clear nc0 nc1 nc2 nc3 hB'
        clear wc
      rintro W ⟨c0, c1, c2, c3, hB⟩
      obtain ⟨z0, z1, z2, z3, f0, f1, f2, f3⟩ := id c1
      obtain ⟨x30, x31, x32, x33, -, -, -, -⟩ := id c3
      cases ob
      all_goals (go_wp2; go_roundw)
      all_goals (first
        | exact ⟨k + 1, by omega, by go_num, by rw [HO1.out]; rfl, c0.put_other (by omega) _, by (rw [HS1.out]; exact c1.put _), c2.below (below_put4 (Below.refl w.heap.size W) (by omega) _) hg, below_put4 hB (by omega) _⟩
        | (simp [intOf]; omega))
    · obtain rfl : k = len := by omega
      obtain ⟨z0, z1, z2, z3, -, -, -, -⟩ := id c1
      obtain ⟨x0, x1, x2, x3, f0, f1, f2, f3⟩ := id c0
      generalize hS2 : sumN N k = S at c1 z0 z1 z2 z3 ⊢
      generalize hO2 : sumO N k = ob
      have HS2 := Lib.hid hS2; have HO2 := Lib.hid hO2
      clear hS2 hO2
      go_wp2
      exact bodyPost_ret (v := .tuple #[.agg #[.int .u64 (L0 S), .int .u64 (L1 S), .int .u64 (L2 S), .int .u64 (L3 S)], .bool ob]) (by simp [results, Try.results45, go_sem, x0, x1, x2, x3]) rfl ⟨by rw [HS2.out, HO2.out], below_put4 hB (Nat.le_refl _) _⟩
end Go.Proofs.Ytefnlmiephombaa
