/- Contract of big.ToHash. -/
import Derived.Test.YtefnlmiephombaaMem
import Derived.Test.YtefnlmiephombaaHs
import Derived.Test.YtefnlmiephombaaBigE
import Derived.Laws.CopyOwn
namespace Go.Proofs.Ytefnlmiephombaa
open Go.RowKit
/-- 32 bytes as a value -/
def hsh (l : List Int) : Value := .agg (l.map (Value.int .u8)).toArray

theorem u8_wrap (x : Int) : IntKind.u8.wrap x = x % 256 := by rw [IntKind.wrap_u8]
theorem oneCell_map (l : List Int) : ∀ v ∈ ((l.map (Value.int .u8)).toArray).toList, v.oneCell' = true := by
  intro v hv
  simp only [List.mem_map] at hv
  obtain ⟨x, _, rfl⟩ := hv
  rfl
theorem info42 (n : Nat) (h : n = 32) : (Try.prog.info? 42).map (·.size) = some n := by rw [h]; kernel_rfl

set_option maxHeartbeats 400000 in
theorem tohash_t (v : Int) (w : World) :
    Calls Try.prog 34 #[big v] w fun e w' => e = .returned (hsh (toBytes v)) ∧ Below w.heap.size w w' := by
  unfold big
  go_enter Try.func34, Try.ntmps34
  go_wp2_with fail
  refine wp_gen (fun W => Cells4 W w.heap.size v ∧ W.heap[w.heap.size + 1]? = some (.cells ((rowAt v 0).map (Value.int .u8)).toArray 42 (0, 0)) ∧ W.heap[w.heap.size + 1 + 1]? = some (.cells ((rowAt v 0).map (Value.int .u8)).toArray 42 (0, 0)) ∧ Below w.heap.size w W) ⟨?_, ?_, ?_, ?_⟩ ?_
  · exact ((cells4_new w v).alloc _).alloc _
  · rw [Below.heap_alloc _ _ _ (by simp), show w.heap.size + 1 = (w.alloc (.cells #[.int .u64 (L0 v), .int .u64 (L1 v), .int .u64 (L2 v), .int .u64 (L3 v)] 24)).heap.size by simp, heap_alloc_new, rowAt_zero]; rfl
  · rw [show w.heap.size + 1 + 1 = ((w.alloc (.cells #[.int .u64 (L0 v), .int .u64 (L1 v), .int .u64 (L2 v), .int .u64 (L3 v)] 24)).alloc (.cells ((rowAt v 0).map (Value.int .u8)).toArray 42)).heap.size by simp, rowAt_zero]; exact heap_alloc_new _ _
  · exact bel_alloc (bel_alloc (bel_alloc (Below.refl _ _) _) _) _
  rintro W ⟨cA, cR, cO, hB⟩
  go_loopw [5] (fun i wr => ∃ k : Nat, k ≤ 32 ∧ i = .int .i64 k ∧ Cells4 wr w.heap.size v ∧ wr.heap[w.heap.size + 1]? = some (.cells ((rowAt v 0).map (Value.int .u8)).toArray 42 (0, 0)) ∧ wr.heap[w.heap.size + 1 + 1]? = some (.cells ((rowAt v k).map (Value.int .u8)).toArray 42 (0, 0)) ∧ Below w.heap.size w wr) (fun i _ => 32 - (intOf i).toNat)
  case atStart => exact ⟨0, by omega, rfl, cA, cR, cO, hB⟩
  case round =>
    obtain ⟨k, hk, rfl, cA, cR, cO, hB⟩ := hrel
    have CR := Lib.hid cR
    have CO := Lib.hid cO
    by_cases hlt : k < 32
    · obtain ⟨r, hr, hc⟩ : ∃ r : Nat, r < 8 ∧ (k = r ∨ k = 8 + r ∨ k = 16 + r ∨ k = 24 + r) := ⟨k % 8, by omega, by omega⟩
      have hm : (k : Int) % 8 = r := by omega
      obtain ⟨c0, c1, c2, c3, -, -, -, -⟩ := id cA
      have hcell : wr.cell? ⟨w.heap.size + 1 + 1, k, none⟩ = some (.int .u8 ((rowAt v k)[k]'(by rw [rowAt_length]; exact hlt))) := by
        rw [cell_of_row wr _ k _ _ _ cO]; simp [rowAt_length, hlt]
      have hfro : wr.frozen? ⟨w.heap.size + 1 + 1, k, none⟩ = false := frozen_of_row wr _ k _ _ cO
      clear cO cR
      have cO := CO.out
      have cR := CR.out
      rcases hc with hc | hc | hc | hc
      · have hq : (k : Int) / 8 = 0 := by omega
        have hqN : k / 8 = 0 := by omega
        have hby : IntKind.u8.wrap (L0 v / 2 ^ (8 * r)) = byteAt v k := by
          rw [u8_wrap, Int.pow_mul, show (2 : Int) ^ 8 = 256 from rfl, (byte_words v r hr).1, hc]
        clear hc
        go_wp2
        go_roundw
        case rel => exact ⟨k + 1, by omega, by go_num, cA.set_other (by omega) _, by rw [heap_setCell_other _ _ _ _ (by simp)]; exact cR, by rw [heap_setCell_same _ _ _ _ _ _ cO, rowAt_succ v k hlt], hB.setCell (p := ⟨_, k, none⟩) (by simp; omega) _⟩
        case measure => simp [intOf]; omega
      · have hq : (k : Int) / 8 = 1 := by omega
        have hqN : k / 8 = 1 := by omega
        have hby : IntKind.u8.wrap (L1 v / 2 ^ (8 * r)) = byteAt v k := by
          rw [u8_wrap, Int.pow_mul, show (2 : Int) ^ 8 = 256 from rfl, (byte_words v r hr).2.1, hc]
        clear hc
        go_wp2
        go_roundw
        case rel => exact ⟨k + 1, by omega, by go_num, cA.set_other (by omega) _, by rw [heap_setCell_other _ _ _ _ (by simp)]; exact cR, by rw [heap_setCell_same _ _ _ _ _ _ cO, rowAt_succ v k hlt], hB.setCell (p := ⟨_, k, none⟩) (by simp; omega) _⟩
        case measure => simp [intOf]; omega
      · have hq : (k : Int) / 8 = 2 := by omega
        have hqN : k / 8 = 2 := by omega
        have hby : IntKind.u8.wrap (L2 v / 2 ^ (8 * r)) = byteAt v k := by
          rw [u8_wrap, Int.pow_mul, show (2 : Int) ^ 8 = 256 from rfl, (byte_words v r hr).2.2.1, hc]
        clear hc
        go_wp2
        go_roundw
        case rel => exact ⟨k + 1, by omega, by go_num, cA.set_other (by omega) _, by rw [heap_setCell_other _ _ _ _ (by simp)]; exact cR, by rw [heap_setCell_same _ _ _ _ _ _ cO, rowAt_succ v k hlt], hB.setCell (p := ⟨_, k, none⟩) (by simp; omega) _⟩
        case measure => simp [intOf]; omega
      · have hq : (k : Int) / 8 = 3 := by omega
        have hqN : k / 8 = 3 := by omega
        have hby : IntKind.u8.wrap (L3 v / 2 ^ (8 * r)) = byteAt v k := by
          rw [u8_wrap, Int.pow_mul, show (2 : Int) ^ 8 = 256 from rfl, (byte_words v r hr).2.2.2, hc]
        clear hc
        go_wp2
        go_roundw
        case rel => exact ⟨k + 1, by omega, by go_num, cA.set_other (by omega) _, by rw [heap_setCell_other _ _ _ _ (by simp)]; exact cR, by rw [heap_setCell_same _ _ _ _ _ _ cO, rowAt_succ v k hlt], hB.setCell (p := ⟨_, k, none⟩) (by simp; omega) _⟩
        case measure => simp [intOf]; omega
    · have hk32 : k = 32 := by omega
      rw [hk32, rowAt_all] at cO
      clear CO CR hk32
      go_wp2_with (first | (refine wpList_load_row rfl 42 _ rfl _ rfl 42 _ _ _ cO Try.underlying42 rfl (info42 _ (by simp [toBytes_length])) ?_) | (refine wpList_store_row rfl 42 _ _ rfl _ rfl _ rfl 42 _ cR (info42 _ (by simp [toBytes_length])) (by simp [toBytes_length, rowAt_length]) (oneCell_map _) ?_))
      exact bodyPost_ret (v := hsh (toBytes v)) (results_cell_row rfl _ _ _ 42 _ _ _ rfl (setRow_heap wr _ _ _ 42 _ cR) Try.underlying42 rfl (info42 _ (by simp [toBytes_length]))) rfl ⟨rfl, below_setRow hB (by omega) _⟩

theorem tohash_c (x : Int) (w : World) : Calls Try.prog 34 #[big x] w fun e w' => e = .returned (hsh (toBytes (m x))) ∧ Below w.heap.size w w' := by
  rw [← big_m x]
  exact tohash_t (m x) w
end Go.Proofs.Ytefnlmiephombaa
