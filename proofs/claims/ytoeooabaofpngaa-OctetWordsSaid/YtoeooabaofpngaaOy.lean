/- The walk of OctetWords. -/
import Derived.Test.YtoeooabaofpngaaOx
namespace Go.Proofs.Ytoeooabaofpngaa
open Go.RowKit Go.Sort

theorem words_1 (xs : List Int) (h : Bytes xs) : uhB (numsOf (strOfNums (hexI xs))) = xs ∧ uhE (numsOf (strOfNums (hexI xs))) = 0 := by
  rw [nums_str _ (hexI_bytes _ h)]
  exact uh_some (unhex_hex xs h)
theorem uhE_zero {l : List Int} (h : uhE l = 0) : unhexI l = some (uhB l) := by
  unfold uhE at h
  unfold uhB
  cases hu : unhexI l with
  | none => rw [hu] at h; simp at h
  | some m => rfl
theorem words_2 (s : ByteArray) (h : uhE (numsOf s) = 0) : strOfNums (hexI (uhB (numsOf s))) = s := by
  rw [(hex_unhex _ _ (uhE_zero h)).1, str_nums]
theorem utE_or (l : List Int) : utE l = 0 ∨ utE l = 5 := by unfold utE; split; exact .inl rfl; exact .inr rfl
theorem words_3 (s : ByteArray) (h : utE (numsOf s) = 0) : uhE (numsOf s) = 0 ∧ strOfNums (hexI (utB (numsOf s)).reverse) = s ∧ (s.size : Int) = 64 := by
  unfold utE at h
  split at h
  · rename_i hc
    have he := hex_unhex _ _ (uhE_zero hc.1)
    refine ⟨hc.1, ?_, ?_⟩
    · unfold utB
      rw [if_pos hc, List.reverse_reverse, he.1, str_nums]
    · have := he.2.2
      rw [numsOf_len, hc.2] at this
      omega
  · cases h
theorem utB_bytes (l : List Int) : Bytes (utB l) := by
  unfold utB
  split
  · intro b hb; exact uhB_bytes l b (by simpa using hb)
  · intro b hb; rw [List.mem_replicate] at hb; omega

set_option maxRecDepth 100000 in
set_option maxHeartbeats 4000000 in
theorem words_t (bv : Value) (xs : List Int) (s : ByteArray) (hs : List Int) (w : World) (h : RdB w bv xs) (hb : Bytes xs) (hm : s.size ≤ maxLen) (hl : hs.length = 32) (hhb : Bytes hs) :
    Calls Try.prog 5 #[bv, .string s, hsh hs] w fun e w' => e = .returned (.bool true) ∧ Below w.heap.size w w' := by
  have kw := works_c
  obtain ⟨cH, hcH, hcHl, hcH1, hcHi, -⟩ := cells32 hs hl
  have hbox : RdB (w.alloc (.cells cH.toArray 34)) bv xs := h.keep (bel_alloc (Below.refl _ _) _)
  have kv := fun W hW => vast_c bv xs W hW
  unfold maxLen at hm
  by_cases hvast : 16384 < xs.length ∨ 16384 < s.size
  · unfold hsh
    rw [hcH]
    by_cases hx : 16384 < xs.length
    · rw [decide_eq_true hx] at kv
      clear hcH hcHl hcH1 hcHi
      go_enter Try.func5, Try.ntmps5
      go_wp2_with first
        | (go_at_call 8; with_reducible refine (kv _ hbox).mono ?_; rintro e w1 ⟨rfl, rfl⟩)
        | (go_at_call 9; with_reducible refine (kw _).mono ?_; rintro e w2 ⟨rfl, hb2⟩)
      go_ret
      exact ⟨rfl, (bel_alloc (Below.refl _ _) _).trans (hb2.mono (by simp))⟩
    · have hy : 16384 < s.size := by omega
      rw [decide_eq_false hx] at kv
      clear hcH hcHl hcH1 hcHi
      go_enter Try.func5, Try.ntmps5
      go_wp2_with first
        | (go_at_call 8; with_reducible refine (kv _ hbox).mono ?_; rintro e w1 ⟨rfl, rfl⟩)
        | (go_at_call 9; with_reducible refine (kw _).mono ?_; rintro e w2 ⟨rfl, hb2⟩)
      go_ret
      exact ⟨rfl, (bel_alloc (Below.refl _ _) _).trans (hb2.mono (by simp))⟩
  have hx : ¬ 16384 < xs.length := by omega
  have hy : ¬ 16384 < s.size := by omega
  rw [decide_eq_false hx] at kv
  have hfs : (strOfNums (hexI xs)).size ≤ 1000000 := by rw [strOfNums_size, hexI_len]; omega
  have kh1 := fun W hW => hex_c bv xs W hW hb (by omega)
  have ku1 : ∀ W, Calls Try.prog 16 #[.string (strOfNums (hexI xs))] W fun e w' => ∃ v', e = .returned (.tuple #[v', .int .i64 0]) ∧ RowO w' W.heap.size v' xs ∧ Below W.heap.size W w' := fun W => by
    have := unhex_c _ W hfs
    rwa [(words_1 xs hb).1, (words_1 xs hb).2] at this
  have hqn : ∀ (l : List Int), l.length = 32 → ∀ w, (binOp .neq 34 (.agg (l.map (Value.int .u8)).toArray) (.agg (l.map (Value.int .u8)).toArray)).run Try.prog w = .ok (.bool false) w := fun l hl w => by
    have := run_neq_ints w 34 5 .u8 32 (Try.underlying34.trans rfl) Try.underlying5 (fun _ => by simp [go_sem]) l l hl hl
    rwa [show (!(l == l)) = false by simp] at this
  have hq := hqn hs hl
  have hbr : Bytes hs.reverse := fun b hb' => hhb b (by simpa using hb')
  have hts : (strOfNums (hexI hs.reverse)).size ≤ 1000000 := by rw [strOfNums_size, hexI_len]; simp [hl]
  have kt : ∀ W, Calls Try.prog 22 #[.agg cH.toArray] W fun e w' => e = .returned (.string (strOfNums (hexI hs.reverse))) ∧ Below W.heap.size W w' := fun W => by
    have := turned_c hs W hl hhb
    unfold hsh at this
    rwa [hcH] at this
  have kut1 : ∀ W, Calls Try.prog 18 #[.string (strOfNums (hexI hs.reverse))] W fun e w' => e = .returned (.tuple #[.agg cH.toArray, .int .i64 0]) ∧ Below W.heap.size W w' := fun W => by
    have := unturned_c _ W hts
    rw [nums_str _ (hexI_bytes _ hbr), (ut_hex hs hl hhb).1, (ut_hex hs hl hhb).2] at this
    unfold hsh at this
    rwa [hcH] at this
  obtain ⟨cU, hcU, hcUl, hcU1, hcUi, -⟩ := cells32 (utB (numsOf s)) (utB_len _)
  have kuh := fun W => unhex_c s W (by omega)
  have kut : ∀ W, Calls Try.prog 18 #[.string s] W fun e w' => e = .returned (.tuple #[.agg cU.toArray, .int .i64 (utE (numsOf s))]) ∧ Below W.heap.size W w' := fun W => by
    have := unturned_c s W (by omega)
    unfold hsh at this
    rwa [hcU] at this
  have ktu : ∀ W, Calls Try.prog 22 #[.agg cU.toArray] W fun e w' => e = .returned (.string (strOfNums (hexI (utB (numsOf s)).reverse))) ∧ Below W.heap.size W w' := fun W => by
    have := turned_c (utB (numsOf s)) W (utB_len _) (utB_bytes _)
    unfold hsh at this
    rwa [hcU] at this
  have hYl : (uhB (numsOf s)).length ≤ 1000000 := by have := uhB_len (numsOf s); rw [numsOf_len] at this; omega
  have hYb := uhB_bytes (numsOf s)
  have khy := fun v W hW => hex_c v (uhB (numsOf s)) W hW hYb (by omega)
  have hw2 := words_2 s
  have hw3 := words_3 s
  have hE := uhE_or (numsOf s)
  have hF := utE_or (numsOf s)
  unfold hsh
  rw [hcH] at hq ⊢
  clear hcH hcU hqn hbr hts hfs
  generalize uhB (numsOf s) = Y at *
  generalize uhE (numsOf s) = E at *
  generalize utE (numsOf s) = F at *
  generalize strOfNums (hexI (utB (numsOf s)).reverse) = S3 at *
  generalize strOfNums (hexI hs.reverse) = S1 at *
  generalize strOfNums (hexI xs) = S2 at *
  generalize strOfNums (hexI Y) = S4 at *
  have HR := Lib.hid h
  have HI := Lib.hid hcUi
  have HJ := Lib.hid hcHi
  have HZ := Lib.hid (zeros32.trans (show 32 = cU.toArray.size by simp [hcUl]))
  have HY := Lib.hid (zeros32.trans (show 32 = cH.toArray.size by simp [hcHl]))
  have hone : ∀ v ∈ cU.toArray.toList, v.oneCell' = true := by simpa using hcU1
  have hone2 : ∀ v ∈ cH.toArray.toList, v.oneCell' = true := by simpa using hcH1
  have hrow : (w.alloc (.cells cH.toArray 34)).heap[w.heap.size]? = some (.cells cH.toArray 34 (0, 0)) := heap_alloc_new _ _
  have ha := bel_alloc (Below.refl _ w) (.cells cH.toArray 34)
  have HO := Lib.hid hone
  have HP := Lib.hid hone2
  have HW2 := Lib.hid hw2
  have HW3 := Lib.hid hw3
  clear hl h hbox hcHl hcUl hcH1 hcU1 hcUi hcHi hone hone2 hw2 hw3
  go_enter Try.func5, Try.ntmps5
  go_upto_region 3 with (go_at_call 8; with_reducible refine (kv _ (HR.out.keep ha)).mono ?_; rintro e w1 ⟨rfl, rfl⟩)
  refine wp_gen (fun W => W.heap[w.heap.size]? = some (.cells cH.toArray 34 (0, 0)) ∧ w.heap.size < W.heap.size ∧ Below w.heap.size w W) ⟨hrow, by simp, ha⟩ ?_
  clear hrow ha kv
  rintro W ⟨r0, g0, ha⟩
  have R0 := Lib.hid r0
  clear r0
  have hacc := Below.refl W.heap.size W
  go_upto_region 4 with first
    | (go_at_call 20; with_reducible refine (kh1 _ ((HR.out.keep ha).keep hacc)).mono ?_; rintro e w2 ⟨rfl, hb1⟩; have hacc := bel_call hacc hb1)
    | (go_at_call 16; with_reducible refine (ku1 _).mono ?_; rintro e w3 ⟨v1, rfl, h1, hb2⟩; have hacc := bel_call hacc hb2)
  have d1 := h1.rd
  clear h1
  go_upto_region 5 with first
    | (refine wpList_load_row_g 34 _ rfl rfl w.heap.size rfl 34 _ _ _ ((hacc.block w.heap.size g0).trans R0.out) Try.underlying34 rfl HJ.out ?_)
    | (go_at_call 22; with_reducible refine (kt _).mono ?_; rintro e w4 ⟨rfl, hb3⟩; have hacc := bel_call hacc hb3; have d1 := d1.keep hb3)
    | (go_at_call 18; with_reducible refine (kut1 _).mono ?_; rintro e w5 ⟨rfl, hb4⟩; have hacc := bel_call hacc hb4; have d1 := d1.keep hb4)
    | (refine wpList_store_row rfl 34 _ _ rfl _ rfl _ rfl 34 _ (heap_alloc_new _ _) HJ.out HY.out HP.out ?_)
  refine wp_gen (fun V => V.heap[w.heap.size]? = some (.cells cH.toArray 34 (0, 0)) ∧ V.heap[w5.heap.size]? = some (.cells cH.toArray 34 (0, 0)) ∧ w.heap.size < V.heap.size ∧ w5.heap.size < V.heap.size ∧ RdB V v1 xs ∧ Below w.heap.size w V) ⟨?_, ?_, ?_, ?_, ?_, ?_⟩ ?_
  · exact ((below_setRow (bel_alloc hacc _) hacc.size (by simp) _).block w.heap.size g0).trans R0.out
  · exact setRow_heap _ _ _ _ 34 _ (heap_alloc_new _ _)
  · have := hacc.size; simp only [World.setRow, Array.size_modify, World.size_alloc]; omega
  · simp only [World.setRow, Array.size_modify, World.size_alloc]; omega
  · exact d1.keep (below_setRow (bel_alloc (Below.refl _ _) _) (Nat.le_refl _) (by simp) _)
  · exact bel_call ha (below_setRow (bel_alloc hacc _) hacc.size (by simp) _)
  clear hb1 hb2 hb3 hb4 d1 hacc ha g0 R0
  generalize w5.heap.size = B1
  rintro V ⟨r0, r1, g0, g1, d1, ha⟩
  have R0 := Lib.hid r0
  have R1 := Lib.hid r1
  clear r0 r1
  have hacc := Below.refl V.heap.size V
  go_upto_region 7 with first
    | (go_at_call 14; with_reducible refine (same_c _ _ xs xs _ (d1.keep hacc) ((HR.out.keep ha).keep hacc) (by omega) (by omega)).mono ?_; rintro e w9 ⟨rfl, hb9⟩; rw [decide_eq_true rfl]; have hacc := bel_call hacc hb9)
    | (refine wpList_load_row_g 34 (.tmp 9) rfl rfl B1 rfl 34 _ _ _ ((hacc.block B1 g1).trans R1.out) Try.underlying34 rfl HJ.out ?_)
    | (refine wpList_load_row_g 34 (.tmp 5) rfl rfl w.heap.size rfl 34 _ _ _ ((hacc.block w.heap.size g0).trans R0.out) Try.underlying34 rfl HJ.out ?_)
  go_upto_region 8 with (go_at_call 16; with_reducible refine (kuh _).mono ?_; rintro e w10 ⟨v2, rfl, h2, hb1⟩; have hacc := bel_call hacc hb1)
  have d2 := h2.rd
  have hba := bel_call ha hacc
  clear h2 hb1 hacc ha R0 R1 g0 g1 d1
  have hacc := Below.refl w10.heap.size w10
  rcases hF with rfl | rfl
  · obtain ⟨rfl, rfl, hs64⟩ := HW3.out rfl
    obtain rfl := HW2.out rfl
    clear HW2 HW3 hE
    go_upto_region 11 with first
      | (go_at_call 20; with_reducible refine (khy _ _ (d2.keep hacc)).mono ?_; rintro e w11 ⟨rfl, hb2⟩; have hacc := bel_call hacc hb2)
      | (go_at_call 18; with_reducible refine (kut _).mono ?_; rintro e w12 ⟨rfl, hb3⟩; have hacc := bel_call hacc hb3)
      | (refine wpList_store_row rfl 34 _ _ rfl _ rfl _ rfl 34 _ (heap_alloc_new _ _) HI.out HZ.out HO.out ?_)
    have hbb := bel_call hba (below_setRow (bel_alloc hacc (.cells #[.int .u8 0, .int .u8 0, .int .u8 0, .int .u8 0, .int .u8 0, .int .u8 0, .int .u8 0, .int .u8 0, .int .u8 0, .int .u8 0, .int .u8 0, .int .u8 0, .int .u8 0, .int .u8 0, .int .u8 0, .int .u8 0, .int .u8 0, .int .u8 0, .int .u8 0, .int .u8 0, .int .u8 0, .int .u8 0, .int .u8 0, .int .u8 0, .int .u8 0, .int .u8 0, .int .u8 0, .int .u8 0, .int .u8 0, .int .u8 0, .int .u8 0, .int .u8 0] 34)) hacc.size (by simp) cU.toArray)
    have hset := setRow_heap (w12.alloc (.cells #[.int .u8 0, .int .u8 0, .int .u8 0, .int .u8 0, .int .u8 0, .int .u8 0, .int .u8 0, .int .u8 0, .int .u8 0, .int .u8 0, .int .u8 0, .int .u8 0, .int .u8 0, .int .u8 0, .int .u8 0, .int .u8 0, .int .u8 0, .int .u8 0, .int .u8 0, .int .u8 0, .int .u8 0, .int .u8 0, .int .u8 0, .int .u8 0, .int .u8 0, .int .u8 0, .int .u8 0, .int .u8 0, .int .u8 0, .int .u8 0, .int .u8 0, .int .u8 0] 34)) w12.heap.size _ cU.toArray 34 _ (heap_alloc_new _ _)
    refine wp_gen (fun V => V.heap[w12.heap.size]? = some (.cells cU.toArray 34 (0, 0)) ∧ Below w.heap.size w V) ⟨hset, hbb⟩ ?_
    clear hset hbb hacc hba d2 hb2 hb3
    generalize w12.heap.size = B3
    rintro V2 ⟨r3, hbb⟩
    have R3 := Lib.hid r3
    clear r3
    go_wp2_with first
      | (refine wpList_load_row_g 34 (.tmp 13) rfl rfl B3 rfl 34 _ _ _ R3.out Try.underlying34 rfl HI.out ?_)
      | (go_at_call 22; with_reducible refine (ktu _).mono ?_; rintro e w13 ⟨rfl, hb5⟩; have hbb := bel_call hbb hb5)
      | (go_at_call 9; with_reducible refine (kw _).mono ?_; rintro e w14 ⟨rfl, hb6⟩; have hbb := bel_call hbb hb6)
    go_ret
    exact ⟨rfl, hbb⟩
  · clear HW3
    rcases hE with rfl | rfl
    · obtain rfl := HW2.out rfl
      clear HW2
      go_upto_region 11 with first
        | (go_at_call 20; with_reducible refine (khy _ _ (d2.keep hacc)).mono ?_; rintro e w11 ⟨rfl, hb2⟩; have hacc := bel_call hacc hb2)
        | (go_at_call 18; with_reducible refine (kut _).mono ?_; rintro e w12 ⟨rfl, hb3⟩; have hacc := bel_call hacc hb3)
        | (refine wpList_store_row rfl 34 _ _ rfl _ rfl _ rfl 34 _ (heap_alloc_new _ _) HI.out HZ.out HO.out ?_)
      have hbb := bel_call hba (below_setRow (bel_alloc hacc (.cells #[.int .u8 0, .int .u8 0, .int .u8 0, .int .u8 0, .int .u8 0, .int .u8 0, .int .u8 0, .int .u8 0, .int .u8 0, .int .u8 0, .int .u8 0, .int .u8 0, .int .u8 0, .int .u8 0, .int .u8 0, .int .u8 0, .int .u8 0, .int .u8 0, .int .u8 0, .int .u8 0, .int .u8 0, .int .u8 0, .int .u8 0, .int .u8 0, .int .u8 0, .int .u8 0, .int .u8 0, .int .u8 0, .int .u8 0, .int .u8 0, .int .u8 0, .int .u8 0] 34)) hacc.size (by simp) cU.toArray)
      refine wp_gen (fun V => Below w.heap.size w V) hbb ?_
      clear hbb hacc hba d2 hb2 hb3
      generalize w12.heap.size = B3
      intro V2 hbb
      go_wp2_with (go_at_call 9; with_reducible refine (kw _).mono ?_; rintro e w14 ⟨rfl, hb6⟩; have hbb := bel_call hbb hb6)
      go_ret
      exact ⟨rfl, hbb⟩
    · clear HW2
      go_upto_region 11 with first
        | (go_at_call 18; with_reducible refine (kut _).mono ?_; rintro e w12 ⟨rfl, hb3⟩; have hacc := bel_call hacc hb3)
        | (refine wpList_store_row rfl 34 _ _ rfl _ rfl _ rfl 34 _ (heap_alloc_new _ _) HI.out HZ.out HO.out ?_)
      have hbb := bel_call hba (below_setRow (bel_alloc hacc (.cells #[.int .u8 0, .int .u8 0, .int .u8 0, .int .u8 0, .int .u8 0, .int .u8 0, .int .u8 0, .int .u8 0, .int .u8 0, .int .u8 0, .int .u8 0, .int .u8 0, .int .u8 0, .int .u8 0, .int .u8 0, .int .u8 0, .int .u8 0, .int .u8 0, .int .u8 0, .int .u8 0, .int .u8 0, .int .u8 0, .int .u8 0, .int .u8 0, .int .u8 0, .int .u8 0, .int .u8 0, .int .u8 0, .int .u8 0, .int .u8 0, .int .u8 0, .int .u8 0] 34)) hacc.size (by simp) cU.toArray)
      refine wp_gen (fun V => Below w.heap.size w V) hbb ?_
      clear hbb hacc hba d2 hb3
      generalize w12.heap.size = B3
      intro V2 hbb
      go_wp2_with (go_at_call 9; with_reducible refine (kw _).mono ?_; rintro e w14 ⟨rfl, hb6⟩; have hbb := bel_call hbb hb6)
      go_ret
      exact ⟨rfl, hbb⟩
end Go.Proofs.Ytoeooabaofpngaa
