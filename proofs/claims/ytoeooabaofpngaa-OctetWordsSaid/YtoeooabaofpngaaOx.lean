/- The walk of OctetLetters. -/
import Derived.Test.YtoeooabaofpngaaOv
import Derived.Deep.MidRow
import Derived.Test.YtoeooabaofpngaaHd
import Derived.Deep.DrawnRows
namespace Go.Proofs.Ytoeooabaofpngaa
open Go.RowKit Go.Sort
attribute [local go_sem ↓] Go.wp_at_zero Go.wp_at_succ

theorem range_of_row {w : World} {g : Nat} {cs : List Value} {t : TypeId} {fr : Nat × Nat} (h : w.heap[g]? = some (.cells cs.toArray t fr)) : w.rangeAt g 0 cs := fun j v hv => by
  rw [Nat.zero_add]
  simp [World.cell?, h, hv]
/-- a row of 32 values that stands -/
theorem range_call {w w' : World} {g : Nat} {cs : List Value} (h : w.rangeAt g 0 cs) (hg : g < w.heap.size) (hb : Below w.heap.size w w') : w'.rangeAt g 0 cs := fun j v hv => by
  rw [hb.cell (p := ⟨g, 0 + j, none⟩) hg]; exact h j v hv
/-- how a hash's cells look, under a name -/
theorem cells32 (l : List Int) (hl : l.length = 32) : ∃ cs : List Value, (l.map (Value.int .u8)) = cs ∧ cs.length = 32 ∧ (∀ v ∈ cs, v.oneCell' = true) ∧ (Try.prog.info? 34).map (·.size) = some cs.length ∧ (∀ w, (binOp .eql 34 (.agg cs.toArray) (.agg cs.toArray)).run Try.prog w = .ok (.bool true) w) := by
  have h : (l.map (Value.int .u8)).length = 32 := by simp [hl]
  refine ⟨_, rfl, h, ?_, info34 _ h, fun w => ?_⟩
  · intro v hv
    obtain ⟨x, _, rfl⟩ := List.mem_map.1 hv
    rfl
  · have := hash_eq l l hl hl w
    rwa [show (l == l) = true by simp] at this

set_option maxRecDepth 100000 in
set_option maxHeartbeats 2000000 in
theorem letters_t (bv : Value) (xs : List Int) (s : ByteArray) (hs : List Int) (w : World) (h : RdB w bv xs) (hb : Bytes xs) (hm : s.size ≤ maxLen) (hl : hs.length = 32) (hhb : Bytes hs) :
    Calls Try.prog 4 #[bv, .string s, hsh hs] w fun e w' => e = .returned (.bool true) ∧ Below w.heap.size w w' := by
  have kw := works_c
  obtain ⟨cH, hcH, hcHl, hcH1, hcHi, -⟩ := cells32 hs hl
  have hbox : RdB (w.alloc (.cells cH.toArray 34)) bv xs := h.keep (bel_alloc (Below.refl _ _) _)
  have kv := fun W hW => vast_c bv xs W hW
  unfold maxLen at hm
  by_cases hvast : 16384 < xs.length ∨ 16384 < s.size
  · unfold hsh
    rw [hcH]
    by_cases hx : 16384 < xs.length
    · rw [decide_eq_true hx] at kv
      clear hcH hcHl hcH1 hcHi
      go_enter Try.func4, Try.ntmps4
      go_wp2_with first
        | (go_at_call 8; with_reducible refine (kv _ hbox).mono ?_; rintro e w1 ⟨rfl, rfl⟩)
        | (go_at_call 9; with_reducible refine (kw _).mono ?_; rintro e w2 ⟨rfl, hb2⟩)
      go_ret
      exact ⟨rfl, (bel_alloc (Below.refl _ _) _).trans (hb2.mono (by simp))⟩
    · have hy : 16384 < s.size := by omega
      rw [decide_eq_false hx] at kv
      clear hcH hcHl hcH1 hcHi
      go_enter Try.func4, Try.ntmps4
      go_wp2_with first
        | (go_at_call 8; with_reducible refine (kv _ hbox).mono ?_; rintro e w1 ⟨rfl, rfl⟩)
        | (go_at_call 9; with_reducible refine (kw _).mono ?_; rintro e w2 ⟨rfl, hb2⟩)
      go_ret
      exact ⟨rfl, (bel_alloc (Below.refl _ _) _).trans (hb2.mono (by simp))⟩
  have hx : ¬ 16384 < xs.length := by omega
  have hy : ¬ 16384 < s.size := by omega
  rw [decide_eq_false hx] at kv
  obtain ⟨cU, hcU, hcUl, hcU1, hcUi, hcUq⟩ := cells32 (utB (numsOf s)) (utB_len _)
  have kuh := fun W => unhex_c s W (by omega)
  have kru := fun W => runhex_c s W (by omega)
  have kut : ∀ W, Calls Try.prog 18 #[.string s] W fun e w' => e = .returned (.tuple #[.agg cU.toArray, .int .i64 (utE (numsOf s))]) ∧ Below W.heap.size W w' := fun W => by
    have := unturned_c s W (by omega)
    unfold hsh at this
    rwa [hcU] at this
  have krt : ∀ W, Calls Try.prog 19 #[.string s] W fun e w' => e = .returned (.tuple #[.agg cU.toArray, .int .i64 (utE (numsOf s))]) ∧ Below W.heap.size W w' := fun W => by
    have := runturned_c s W (by omega)
    unfold hsh at this
    rwa [hcU] at this
  have kt : ∀ W, Calls Try.prog 22 #[.agg cH.toArray] W fun e w' => e = .returned (.string (strOfNums (hexI hs.reverse))) ∧ Below W.heap.size W w' := fun W => by
    have := turned_c hs W hl hhb
    unfold hsh at this
    rwa [hcH] at this
  have krn : ∀ W, Calls Try.prog 23 #[.agg cH.toArray] W fun e w' => e = .returned (.string (strOfNums (hexI hs.reverse))) ∧ Below W.heap.size W w' := fun W => by
    have := rturned_c hs W hl hhb
    unfold hsh at this
    rwa [hcH] at this
  have khx := fun v W (hv : RdB W v xs) => hex_c v xs W hv hb (by omega)
  have krx := fun v W (hv : RdB W v xs) => rhex_c v xs W hv hb (by omega)
  have hYl : (uhB (numsOf s)).length ≤ 1000000 := by have := uhB_len (numsOf s); rw [numsOf_len] at this; omega
  unfold hsh
  rw [hcH]
  clear hcH hcU
  generalize uhB (numsOf s) = Y at *
  generalize uhE (numsOf s) = E at *
  generalize utE (numsOf s) = F at *
  generalize strOfNums (hexI hs.reverse) = S1 at *
  generalize strOfNums (hexI xs) = S2 at *
  have HR := Lib.hid h
  have HI := Lib.hid hcUi
  have HZ := Lib.hid (zeros32.trans (show 32 = cU.toArray.size by simp [hcUl]))
  have hone : ∀ v ∈ cU.toArray.toList, v.oneCell' = true := by simpa using hcU1
  have hrow : (w.alloc (.cells cH.toArray 34)).rangeAt w.heap.size 0 cH := range_of_row (heap_alloc_new _ _)
  have ha := bel_alloc (Below.refl _ w) (.cells cH.toArray 34)
  clear hl h hbox hcHl hcUl hcH1
  go_enter Try.func4, Try.ntmps4
  go_upto_region 3 with (go_at_call 8; with_reducible refine (kv _ (HR.out.keep ha)).mono ?_; rintro e w1 ⟨rfl, rfl⟩)
  refine wp_gen (fun W => W.rangeAt w.heap.size 0 cH ∧ w.heap.size < W.heap.size ∧ Below w.heap.size w W) ⟨hrow, by simp, ha⟩ ?_
  clear hrow ha kv
  rintro W ⟨r0, g0, ha⟩
  go_upto_region 5 with first
    | (go_at_call 16; with_reducible refine (kuh _).mono ?_; rintro e w2 ⟨v1, rfl, h1, hb1⟩; have r0 := range_call r0 g0 hb1; have g0 := Nat.lt_of_lt_of_le g0 hb1.size; have ha := bel_call ha hb1)
    | (go_at_call 17; with_reducible refine (kru _).mono ?_; rintro e w3 ⟨v2, rfl, h2, hb2⟩; have r0 := range_call r0 g0 hb2; have g0 := Nat.lt_of_lt_of_le g0 hb2.size; have ha := bel_call ha hb2; have h1 := h1.keep hb2)
  have d1 := h1.rd
  have d2 := h2.rd
  clear h1 h2 hb1 hb2
  go_upto_region 6 with first
    | (go_at_call 18; with_reducible refine (kut _).mono ?_; rintro e w4 ⟨rfl, hb1⟩; have r0 := range_call r0 g0 hb1; have g0 := Nat.lt_of_lt_of_le g0 hb1.size; have ha := bel_call ha hb1; have d1 := d1.keep hb1; have d2 := d2.keep hb1)
    | (refine wpList_store_row rfl 34 _ _ rfl _ rfl _ rfl 34 _ (heap_alloc_new _ _) HI.out HZ.out hone ?_)
  refine wp_gen (fun W => W.rangeAt w.heap.size 0 cH ∧ W.rangeAt w4.heap.size 0 cU ∧ w.heap.size < W.heap.size ∧ w4.heap.size < W.heap.size ∧ RdB W v1 Y ∧ RdB W v2 Y ∧ Below w.heap.size w W) ⟨?_, ?_, ?_, ?_, ?_, ?_, ?_⟩ ?_
  · exact range_call r0 g0 (below_setRow (bel_alloc (Below.refl _ _) _) (Nat.le_refl _) (by simp) _)
  · exact range_of_row (setRow_heap _ _ _ _ 34 _ (heap_alloc_new _ _))
  · have := (below_setRow (bel_alloc (Below.refl w4.heap.size w4) (.cells #[.int .u8 0, .int .u8 0, .int .u8 0, .int .u8 0, .int .u8 0, .int .u8 0, .int .u8 0, .int .u8 0, .int .u8 0, .int .u8 0, .int .u8 0, .int .u8 0, .int .u8 0, .int .u8 0, .int .u8 0, .int .u8 0, .int .u8 0, .int .u8 0, .int .u8 0, .int .u8 0, .int .u8 0, .int .u8 0, .int .u8 0, .int .u8 0, .int .u8 0, .int .u8 0, .int .u8 0, .int .u8 0, .int .u8 0, .int .u8 0, .int .u8 0, .int .u8 0] 34)) (Nat.le_refl _) (by simp) cU.toArray).size; simp only [World.setRow, Array.size_modify, World.size_alloc]; omega
  · simp only [World.setRow, Array.size_modify, World.size_alloc]; omega
  · exact d1.keep (below_setRow (bel_alloc (Below.refl _ _) _) (Nat.le_refl _) (by simp) _)
  · exact d2.keep (below_setRow (bel_alloc (Below.refl _ _) _) (Nat.le_refl _) (by simp) _)
  · exact below_setRow (bel_alloc ha _) (by have := ha.size; omega) (by simp) _
  clear r0 g0 d1 d2 ha hb1
  generalize w4.heap.size = B1
  rintro W ⟨r0, r1, g0, g1, d1, d2, ha⟩
  go_upto_region 7 with first
    | (go_at_call 19; with_reducible refine (krt _).mono ?_; rintro e w5 ⟨rfl, hb1⟩; have r0 := range_call r0 g0 hb1; have g0 := Nat.lt_of_lt_of_le g0 hb1.size; have r1 := range_call r1 g1 hb1; have g1 := Nat.lt_of_lt_of_le g1 hb1.size; have ha := bel_call ha hb1; have d1 := d1.keep hb1; have d2 := d2.keep hb1)
    | (refine wpList_store_row rfl 34 _ _ rfl _ rfl _ rfl 34 _ (heap_alloc_new _ _) HI.out HZ.out hone ?_)
  refine wp_gen (fun W => W.rangeAt w.heap.size 0 cH ∧ W.rangeAt B1 0 cU ∧ W.rangeAt w5.heap.size 0 cU ∧ w.heap.size < W.heap.size ∧ B1 < W.heap.size ∧ w5.heap.size < W.heap.size ∧ RdB W v1 Y ∧ RdB W v2 Y ∧ Below w.heap.size w W) ⟨?_, ?_, ?_, ?_, ?_, ?_, ?_, ?_, ?_⟩ ?_
  · exact range_call r0 g0 (below_setRow (bel_alloc (Below.refl _ _) _) (Nat.le_refl _) (by simp) _)
  · exact range_call r1 g1 (below_setRow (bel_alloc (Below.refl _ _) _) (Nat.le_refl _) (by simp) _)
  · exact range_of_row (setRow_heap _ _ _ _ 34 _ (heap_alloc_new _ _))
  · simp only [World.setRow, Array.size_modify, World.size_alloc]; omega
  · simp only [World.setRow, Array.size_modify, World.size_alloc]; omega
  · simp only [World.setRow, Array.size_modify, World.size_alloc]; omega
  · exact d1.keep (below_setRow (bel_alloc (Below.refl _ _) _) (Nat.le_refl _) (by simp) _)
  · exact d2.keep (below_setRow (bel_alloc (Below.refl _ _) _) (Nat.le_refl _) (by simp) _)
  · exact below_setRow (bel_alloc ha _) (by have := ha.size; omega) (by simp) _
  clear r0 r1 g0 g1 d1 d2 ha hb1
  generalize w5.heap.size = B2
  rintro W ⟨r0, r1, r2, g0, g1, g2, d1, d2, ha⟩
  have hS : ∀ V, Below W.heap.size W V → V.rangeAt w.heap.size 0 cH ∧ V.rangeAt B1 0 cU ∧ V.rangeAt B2 0 cU := fun V hV => ⟨range_call r0 g0 hV, range_call r1 g1 hV, range_call r2 g2 hV⟩
  have HS := Lib.hid hS
  have HA := Lib.hid ha
  have hacc : Below W.heap.size W W.drew := below_drewN W 1
  have hu := Try.underlying34
  have hi0 := hcHi
  have hi1 := hcUi
  clear hS ha
  go_wp2_with fail
  refine wp_region_noPanic ?_
  refine wp_region_held_drew (S := (fun w' => w'.rangeAt w.heap.size 0 cH ∧ w'.rangeAt B1 0 cU ∧ w'.rangeAt B2 0 cU)) (by kernel_rfl) (HS.out _ hacc) (fun hHeld => ?_)
  refine wpAnyH_take (i := 0) (oi := ?_) (v := ?_) ?_ (by kernel_rfl) (by kernel_rfl) (by kernel_rfl) ?_ (Or.inl ⟨?_, ?_⟩) (by assumption) ?_
  rotate_left 2
  · simp only [List.getElem?_toArray, List.getElem?_cons_zero]; rfl
  · exact fun _ _ _ h => h
  · rfl
  · (intro w hSw; (try dsimp only at hSw); go_simp) <;> with_reducible rfl
  try simp only [Act.put, List.setIfInBounds_toArray, List.set_cons_zero, List.set_cons_succ]
  refine wpAnyH_take (i := 3) (oi := ?_) (v := ?_) ?_ (by kernel_rfl) (by kernel_rfl) (by kernel_rfl) ?_ (Or.inl ⟨?_, ?_⟩) (by assumption) ?_
  rotate_left 2
  · simp only [List.getElem?_toArray, List.getElem?_cons_succ, List.getElem?_cons_zero]; rfl
  · exact fun _ _ _ h => h
  · rfl
  · (intro w hSw; (try dsimp only at hSw); go_simp) <;> with_reducible rfl
  try simp only [Act.put, List.setIfInBounds_toArray, List.set_cons_zero, List.set_cons_succ]
  refine wpAnyH_one 1 (o := ?_) (by kernel_rfl) ?_ (fun K hK => ?_)
  rotate_left 1
  · simp only [List.getElem?_toArray, List.getElem?_cons_succ, List.getElem?_cons_zero]; rfl
  go_simp
  refine (copied_c _ xs _ ((HR.out.keep HA.out).keep hacc) (by omega)).mono ?_; rintro e w6 ⟨v6, rfl, h6, hb6⟩; have hacc := bel_call hacc hb6
  refine hK.out _ _ (HS.out _ hacc) (fun hH => ?_)
  clear hHeld; have hHeld := hH; clear hH hK K
  try simp only [Act.put, List.setIfInBounds_toArray, List.set_cons_zero, List.set_cons_succ]
  refine wpAnyH_one 2 (o := ?_) (by kernel_rfl) ?_ (fun K hK => ?_)
  rotate_left 1
  · simp only [List.getElem?_toArray, List.getElem?_cons_succ, List.getElem?_cons_zero]; rfl
  go_simp
  refine (khx _ _ h6.rd).mono ?_; rintro e w7 ⟨rfl, hb7⟩; have hacc := bel_call hacc hb7
  refine hK.out _ _ (HS.out _ hacc) (fun hH => ?_)
  clear hHeld; have hHeld := hH; clear hH hK K
  try simp only [Act.put, List.setIfInBounds_toArray, List.set_cons_zero, List.set_cons_succ]
  refine wpAnyH_one 4 (o := ?_) (by kernel_rfl) ?_ (fun K hK => ?_)
  rotate_left 1
  · simp only [List.getElem?_toArray, List.getElem?_cons_succ, List.getElem?_cons_zero]; rfl
  go_simp
  refine (krx _ _ ((HR.out.keep HA.out).keep hacc)).mono ?_; rintro e w8 ⟨rfl, hb8⟩; have hacc := bel_call hacc hb8
  refine hK.out _ _ (HS.out _ hacc) (fun hH => ?_)
  clear hHeld; have hHeld := hH; clear hH hK K
  try simp only [Act.put, List.setIfInBounds_toArray, List.set_cons_zero, List.set_cons_succ]
  refine wpAnyH_take (i := 5) (oi := ?_) (v := ?_) ?_ (by kernel_rfl) (by kernel_rfl) (by kernel_rfl) ?_ (Or.inl ⟨?_, ?_⟩) (by assumption) ?_
  rotate_left 2
  · simp only [List.getElem?_toArray, List.getElem?_cons_succ, List.getElem?_cons_zero]; rfl
  · exact fun _ _ _ h => h
  · rfl
  · (intro w hSw; (try dsimp only at hSw); go_simp) <;> with_reducible rfl
  try simp only [Act.put, List.setIfInBounds_toArray, List.set_cons_zero, List.set_cons_succ]
  refine wpAnyH_take (i := 6) (oi := ?_) (v := ?_) ?_ (by kernel_rfl) (by kernel_rfl) (by kernel_rfl) ?_ (Or.inl ⟨?_, ?_⟩) (by assumption) ?_
  rotate_left 2
  · simp only [List.getElem?_toArray, List.getElem?_cons_succ, List.getElem?_cons_zero]; rfl
  · exact fun _ _ _ h => h
  · rfl
  · (intro w hSw; (try dsimp only at hSw); go_simp) <;> with_reducible rfl
  try simp only [Act.put, List.setIfInBounds_toArray, List.set_cons_zero, List.set_cons_succ]
  refine wpAnyH_take (i := 7) (oi := ?_) (v := ?_) ?_ (by kernel_rfl) (by kernel_rfl) (by kernel_rfl) ?_ (Or.inl ⟨?_, ?_⟩) (by assumption) ?_
  rotate_left 2
  · simp only [List.getElem?_toArray, List.getElem?_cons_succ, List.getElem?_cons_zero]; rfl
  · exact fun _ _ _ h => h
  · rfl
  · (intro w hSw; (try dsimp only at hSw); go_simp) <;> with_reducible rfl
  try simp only [Act.put, List.setIfInBounds_toArray, List.set_cons_zero, List.set_cons_succ]
  refine wpAnyH_take (i := 8) (oi := ?_) (v := ?_) ?_ (by kernel_rfl) (by kernel_rfl) (by kernel_rfl) ?_ (Or.inl ⟨?_, ?_⟩) (by assumption) ?_
  rotate_left 2
  · simp only [List.getElem?_toArray, List.getElem?_cons_succ, List.getElem?_cons_zero]; rfl
  · exact fun _ _ _ h => h
  · rfl
  · (intro w hSw; (try dsimp only at hSw); go_simp) <;> with_reducible rfl
  try simp only [Act.put, List.setIfInBounds_toArray, List.set_cons_zero, List.set_cons_succ]
  refine wpAnyH_one 9 (o := ?_) (by kernel_rfl) ?_ (fun K hK => ?_)
  rotate_left 1
  · simp only [List.getElem?_toArray, List.getElem?_cons_succ, List.getElem?_cons_zero]; rfl
  go_simp
  refine (same_c _ _ Y Y _ (d1.keep hacc) (d2.keep hacc) (by omega) (by omega)).mono ?_; rintro e w9 ⟨rfl, hb9⟩; rw [decide_eq_true rfl]; have hacc := bel_call hacc hb9
  refine hK.out _ _ (HS.out _ hacc) (fun hH => ?_)
  clear hHeld; have hHeld := hH; clear hH hK K
  try simp only [Act.put, List.setIfInBounds_toArray, List.set_cons_zero, List.set_cons_succ]
  refine wpAnyH_take (i := 10) (oi := ?_) (v := ?_) ?_ (by kernel_rfl) (by kernel_rfl) (by kernel_rfl) ?_ (Or.inl ⟨?_, ?_⟩) (by assumption) ?_
  rotate_left 2
  · simp only [List.getElem?_toArray, List.getElem?_cons_succ, List.getElem?_cons_zero]; rfl
  · exact fun _ _ _ h => h
  · rfl
  · (intro w hSw; (try dsimp only at hSw); go_simp) <;> with_reducible rfl
  try simp only [Act.put, List.setIfInBounds_toArray, List.set_cons_zero, List.set_cons_succ]
  refine wpAnyH_take (i := 11) (oi := ?_) (v := ?_) ?_ (by kernel_rfl) (by kernel_rfl) (by kernel_rfl) ?_ (Or.inl ⟨?_, ?_⟩) (by assumption) ?_
  rotate_left 2
  · simp only [List.getElem?_toArray, List.getElem?_cons_succ, List.getElem?_cons_zero]; rfl
  · exact fun _ _ _ h => h
  · rfl
  · (intro w hSw; (try dsimp only at hSw); go_simp) <;> with_reducible rfl
  try simp only [Act.put, List.setIfInBounds_toArray, List.set_cons_zero, List.set_cons_succ]
  refine wpAnyH_take (i := 12) (oi := ?_) (v := ?_) ?_ (by kernel_rfl) (by kernel_rfl) (by kernel_rfl) ?_ (Or.inl ⟨?_, ?_⟩) (by assumption) ?_
  rotate_left 2
  · simp only [List.getElem?_toArray, List.getElem?_cons_succ, List.getElem?_cons_zero]; rfl
  · exact fun _ _ _ h => h
  · rfl
  · (intro w hSw; (try dsimp only at hSw); go_simp) <;> with_reducible rfl
  try simp only [Act.put, List.setIfInBounds_toArray, List.set_cons_zero, List.set_cons_succ]
  refine wpAnyH_take (i := 13) (oi := ?_) (v := ?_) ?_ (by kernel_rfl) (by kernel_rfl) (by kernel_rfl) ?_ (Or.inl ⟨?_, ?_⟩) (by assumption) ?_
  rotate_left 2
  · simp only [List.getElem?_toArray, List.getElem?_cons_succ, List.getElem?_cons_zero]; rfl
  · exact fun _ _ _ h => h
  · rfl
  · (intro w hSw; (try dsimp only at hSw); go_simp) <;> with_reducible rfl
  try simp only [Act.put, List.setIfInBounds_toArray, List.set_cons_zero, List.set_cons_succ]
  refine wpAnyH_take (i := 14) (oi := ?_) (v := ?_) ?_ (by kernel_rfl) (by kernel_rfl) (by kernel_rfl) ?_ (Or.inl ⟨?_, ?_⟩) (by assumption) ?_
  rotate_left 2
  · simp only [List.getElem?_toArray, List.getElem?_cons_succ, List.getElem?_cons_zero]; rfl
  · exact fun _ _ _ h => h
  · rfl
  · (intro w hSw; (try dsimp only at hSw); go_simp) <;> with_reducible rfl
  try simp only [Act.put, List.setIfInBounds_toArray, List.set_cons_zero, List.set_cons_succ]
  refine wpAnyH_take (i := 15) (oi := ?_) (v := ?_) ?_ (by kernel_rfl) (by kernel_rfl) (by kernel_rfl) ?_ (Or.inl ⟨?_, ?_⟩) (by assumption) ?_
  rotate_left 2
  · simp only [List.getElem?_toArray, List.getElem?_cons_succ, List.getElem?_cons_zero]; rfl
  · exact fun _ _ _ h => h
  · rfl
  · (intro w hSw; (try dsimp only at hSw); go_simp) <;> with_reducible rfl
  try simp only [Act.put, List.setIfInBounds_toArray, List.set_cons_zero, List.set_cons_succ]
  refine wpAnyH_take (i := 16) (oi := ?_) (v := ?_) ?_ (by kernel_rfl) (by kernel_rfl) (by kernel_rfl) ?_ (Or.inl ⟨?_, ?_⟩) (by assumption) ?_
  rotate_left 2
  · simp only [List.getElem?_toArray, List.getElem?_cons_succ, List.getElem?_cons_zero]; rfl
  · exact fun _ _ _ h => h
  · rfl
  · (intro w hSw; (try dsimp only at hSw); go_simp) <;> with_reducible rfl
  try simp only [Act.put, List.setIfInBounds_toArray, List.set_cons_zero, List.set_cons_succ]
  refine wpAnyH_take (i := 17) (oi := ?_) (v := .agg cH.toArray) ?_ (by kernel_rfl) (by kernel_rfl) (by kernel_rfl) ?_ (yieldsIf_load_mid ?_ 34 (.tmp 5) ?_ (w.heap.size) 0 ?_ _ _ ?_ hu rfl hi0) (by assumption) ?_
  rotate_left 1
  · simp only [List.getElem?_toArray, List.getElem?_cons_succ, List.getElem?_cons_zero]; rfl
  · exact fun _ _ _ h => h
  · rfl
  · rfl
  · rfl
  · exact (fun _ h => And.left h)
  try simp only [Act.put, List.setIfInBounds_toArray, List.set_cons_zero, List.set_cons_succ]
  refine wpAnyH_take (i := 19) (oi := ?_) (v := .agg cH.toArray) ?_ (by kernel_rfl) (by kernel_rfl) (by kernel_rfl) ?_ (yieldsIf_load_mid ?_ 34 (.tmp 5) ?_ (w.heap.size) 0 ?_ _ _ ?_ hu rfl hi0) (by assumption) ?_
  rotate_left 1
  · simp only [List.getElem?_toArray, List.getElem?_cons_succ, List.getElem?_cons_zero]; rfl
  · exact fun _ _ _ h => h
  · rfl
  · rfl
  · rfl
  · exact (fun _ h => And.left h)
  try simp only [Act.put, List.setIfInBounds_toArray, List.set_cons_zero, List.set_cons_succ]
  refine wpAnyH_one 18 (o := ?_) (by kernel_rfl) ?_ (fun K hK => ?_)
  rotate_left 1
  · simp only [List.getElem?_toArray, List.getElem?_cons_succ, List.getElem?_cons_zero]; rfl
  go_simp
  refine (kt _).mono ?_; rintro e w10 ⟨rfl, hb10⟩; have hacc := bel_call hacc hb10
  refine hK.out _ _ (HS.out _ hacc) (fun hH => ?_)
  clear hHeld; have hHeld := hH; clear hH hK K
  try simp only [Act.put, List.setIfInBounds_toArray, List.set_cons_zero, List.set_cons_succ]
  refine wpAnyH_one 20 (o := ?_) (by kernel_rfl) ?_ (fun K hK => ?_)
  rotate_left 1
  · simp only [List.getElem?_toArray, List.getElem?_cons_succ, List.getElem?_cons_zero]; rfl
  go_simp
  refine (krn _).mono ?_; rintro e w11 ⟨rfl, hb11⟩; have hacc := bel_call hacc hb11
  refine hK.out _ _ (HS.out _ hacc) (fun hH => ?_)
  clear hHeld; have hHeld := hH; clear hH hK K
  try simp only [Act.put, List.setIfInBounds_toArray, List.set_cons_zero, List.set_cons_succ]
  refine wpAnyH_take (i := 21) (oi := ?_) (v := ?_) ?_ (by kernel_rfl) (by kernel_rfl) (by kernel_rfl) ?_ (Or.inl ⟨?_, ?_⟩) (by assumption) ?_
  rotate_left 2
  · simp only [List.getElem?_toArray, List.getElem?_cons_succ, List.getElem?_cons_zero]; rfl
  · exact fun _ _ _ h => h
  · rfl
  · (intro w hSw; (try dsimp only at hSw); go_simp) <;> with_reducible rfl
  try simp only [Act.put, List.setIfInBounds_toArray, List.set_cons_zero, List.set_cons_succ]
  refine wpAnyH_take (i := 22) (oi := ?_) (v := ?_) ?_ (by kernel_rfl) (by kernel_rfl) (by kernel_rfl) ?_ (Or.inl ⟨?_, ?_⟩) (by assumption) ?_
  rotate_left 2
  · simp only [List.getElem?_toArray, List.getElem?_cons_succ, List.getElem?_cons_zero]; rfl
  · exact fun _ _ _ h => h
  · rfl
  · (intro w hSw; (try dsimp only at hSw); go_simp) <;> with_reducible rfl
  try simp only [Act.put, List.setIfInBounds_toArray, List.set_cons_zero, List.set_cons_succ]
  refine wpAnyH_take (i := 23) (oi := ?_) (v := ?_) ?_ (by kernel_rfl) (by kernel_rfl) (by kernel_rfl) ?_ (Or.inl ⟨?_, ?_⟩) (by assumption) ?_
  rotate_left 2
  · simp only [List.getElem?_toArray, List.getElem?_cons_succ, List.getElem?_cons_zero]; rfl
  · exact fun _ _ _ h => h
  · rfl
  · (intro w hSw; (try dsimp only at hSw); go_simp) <;> with_reducible rfl
  try simp only [Act.put, List.setIfInBounds_toArray, List.set_cons_zero, List.set_cons_succ]
  refine wpAnyH_take (i := 24) (oi := ?_) (v := .agg cU.toArray) ?_ (by kernel_rfl) (by kernel_rfl) (by kernel_rfl) ?_ (yieldsIf_load_mid ?_ 34 (.tmp 11) ?_ (B1) 0 ?_ _ _ ?_ hu rfl hi1) (by assumption) ?_
  rotate_left 1
  · simp only [List.getElem?_toArray, List.getElem?_cons_succ, List.getElem?_cons_zero]; rfl
  · exact fun _ _ _ h => h
  · rfl
  · rfl
  · rfl
  · exact (fun _ h => And.left (And.right h))
  try simp only [Act.put, List.setIfInBounds_toArray, List.set_cons_zero, List.set_cons_succ]
  refine wpAnyH_take (i := 25) (oi := ?_) (v := .agg cU.toArray) ?_ (by kernel_rfl) (by kernel_rfl) (by kernel_rfl) ?_ (yieldsIf_load_mid ?_ 34 (.tmp 13) ?_ (B2) 0 ?_ _ _ ?_ hu rfl hi1) (by assumption) ?_
  rotate_left 1
  · simp only [List.getElem?_toArray, List.getElem?_cons_succ, List.getElem?_cons_zero]; rfl
  · exact fun _ _ _ h => h
  · rfl
  · rfl
  · rfl
  · exact (fun _ h => And.right (And.right h))
  try simp only [Act.put, List.setIfInBounds_toArray, List.set_cons_zero, List.set_cons_succ]
  refine wpAnyH_take (i := 26) (oi := ?_) (v := ?_) ?_ (by kernel_rfl) (by kernel_rfl) (by kernel_rfl) ?_ (Or.inl ⟨?_, ?_⟩) (by assumption) ?_
  rotate_left 2
  · simp only [List.getElem?_toArray, List.getElem?_cons_succ, List.getElem?_cons_zero]; rfl
  · exact fun _ _ _ h => h
  · rfl
  · (intro w hSw; (try dsimp only at hSw); go_simp) <;> with_reducible rfl
  try simp only [Act.put, List.setIfInBounds_toArray, List.set_cons_zero, List.set_cons_succ]
  refine wpAnyH_take (i := 27) (oi := ?_) (v := ?_) ?_ (by kernel_rfl) (by kernel_rfl) (by kernel_rfl) ?_ (Or.inl ⟨?_, ?_⟩) (by assumption) ?_
  rotate_left 2
  · simp only [List.getElem?_toArray, List.getElem?_cons_succ, List.getElem?_cons_zero]; rfl
  · exact fun _ _ _ h => h
  · rfl
  · (intro w hSw; (try dsimp only at hSw); go_simp) <;> with_reducible rfl
  try simp only [Act.put, List.setIfInBounds_toArray, List.set_cons_zero, List.set_cons_succ]
  refine wpAnyH_take (i := 28) (oi := ?_) (v := ?_) ?_ (by kernel_rfl) (by kernel_rfl) (by kernel_rfl) ?_ (Or.inl ⟨?_, ?_⟩) (by assumption) ?_
  rotate_left 2
  · simp only [List.getElem?_toArray, List.getElem?_cons_succ, List.getElem?_cons_zero]; rfl
  · exact fun _ _ _ h => h
  · rfl
  · (intro w hSw; (try dsimp only at hSw); go_simp) <;> with_reducible rfl
  try simp only [Act.put, List.setIfInBounds_toArray, List.set_cons_zero, List.set_cons_succ]
  refine wpAnyH_take (i := 29) (oi := ?_) (v := ?_) ?_ (by kernel_rfl) (by kernel_rfl) (by kernel_rfl) ?_ (Or.inl ⟨?_, ?_⟩) (by assumption) ?_
  rotate_left 2
  · simp only [List.getElem?_toArray, List.getElem?_cons_succ, List.getElem?_cons_zero]; rfl
  · exact fun _ _ _ h => h
  · rfl
  · (intro w hSw; (try dsimp only at hSw); go_simp) <;> with_reducible rfl
  try simp only [Act.put, List.setIfInBounds_toArray, List.set_cons_zero, List.set_cons_succ]
  refine wpAnyH_take (i := 30) (oi := ?_) (v := ?_) ?_ (by kernel_rfl) (by kernel_rfl) (by kernel_rfl) ?_ (Or.inl ⟨?_, ?_⟩) (by assumption) ?_
  rotate_left 2
  · simp only [List.getElem?_toArray, List.getElem?_cons_succ, List.getElem?_cons_zero]; rfl
  · exact fun _ _ _ h => h
  · rfl
  · (intro w hSw; (try dsimp only at hSw); go_simp) <;> with_reducible rfl
  try simp only [Act.put, List.setIfInBounds_toArray, List.set_cons_zero, List.set_cons_succ]
  refine wpAnyH_take (i := 31) (oi := ?_) (v := ?_) ?_ (by kernel_rfl) (by kernel_rfl) (by kernel_rfl) ?_ (Or.inl ⟨?_, ?_⟩) (by assumption) ?_
  rotate_left 2
  · simp only [List.getElem?_toArray, List.getElem?_cons_succ, List.getElem?_cons_zero]; rfl
  · exact fun _ _ _ h => h
  · rfl
  · (intro w hSw; (try dsimp only at hSw); go_simp) <;> with_reducible rfl
  try simp only [Act.put, List.setIfInBounds_toArray, List.set_cons_zero, List.set_cons_succ]
  refine wpAnyH_take (i := 32) (oi := ?_) (v := ?_) ?_ (by kernel_rfl) (by kernel_rfl) (by kernel_rfl) ?_ (Or.inl ⟨?_, ?_⟩) (by assumption) ?_
  rotate_left 2
  · simp only [List.getElem?_toArray, List.getElem?_cons_succ, List.getElem?_cons_zero]; rfl
  · exact fun _ _ _ h => h
  · rfl
  · (intro w hSw; (try dsimp only at hSw); go_simp) <;> with_reducible rfl
  try simp only [Act.put, List.setIfInBounds_toArray, List.set_cons_zero, List.set_cons_succ]
  refine wpAnyH_take (i := 33) (oi := ?_) (v := ?_) ?_ (by kernel_rfl) (by kernel_rfl) (by kernel_rfl) ?_ (Or.inl ⟨?_, ?_⟩) (by assumption) ?_
  rotate_left 2
  · simp only [List.getElem?_toArray, List.getElem?_cons_succ, List.getElem?_cons_zero]; rfl
  · exact fun _ _ _ h => h
  · rfl
  · (intro w hSw; (try dsimp only at hSw); go_simp) <;> with_reducible rfl
  try simp only [Act.put, List.setIfInBounds_toArray, List.set_cons_zero, List.set_cons_succ]
  refine wpAnyH_one 34 (o := ?_) (by kernel_rfl) ?_ (fun K hK => ?_)
  rotate_left 1
  · simp only [List.getElem?_toArray, List.getElem?_cons_succ, List.getElem?_cons_zero]; rfl
  go_simp
  refine (kw _).mono ?_; rintro e w12 ⟨rfl, hb12⟩; have hacc := bel_call hacc hb12
  refine hK.out _ _ (HS.out _ hacc) (fun hH => ?_)
  clear hHeld; have hHeld := hH; clear hH hK K
  try simp only [Act.put, List.setIfInBounds_toArray, List.set_cons_zero, List.set_cons_succ]
  refine wpAnyH_take (i := 35) (oi := ?_) (v := ?_) ?_ (by kernel_rfl) (by kernel_rfl) (by kernel_rfl) ?_ (Or.inl ⟨?_, ?_⟩) (by assumption) ?_
  rotate_left 2
  · simp only [List.getElem?_toArray, List.getElem?_cons_succ, List.getElem?_cons_zero]; rfl
  · exact fun _ _ _ h => h
  · rfl
  · (intro w hSw; (try dsimp only at hSw); go_simp) <;> with_reducible rfl
  try simp only [Act.put, List.setIfInBounds_toArray, List.set_cons_zero, List.set_cons_succ]
  refine wpAnyH_take (i := 36) (oi := ?_) (v := ?_) ?_ (by kernel_rfl) (by kernel_rfl) (by kernel_rfl) ?_ (Or.inl ⟨?_, ?_⟩) (by assumption) ?_
  rotate_left 2
  · simp only [List.getElem?_toArray, List.getElem?_cons_succ, List.getElem?_cons_zero]; rfl
  · exact fun _ _ _ h => h
  · rfl
  · (intro w hSw; (try dsimp only at hSw); go_simp) <;> with_reducible rfl
  try simp only [Act.put, List.setIfInBounds_toArray, List.set_cons_zero, List.set_cons_succ]
  refine wpAnyH_done (by kernel_rfl) ?_ _
  refine NoPanic.normal ?_
  try simp only [Act.put, List.setIfInBounds_toArray, List.set_cons_zero, List.set_cons_succ]
  go_wp2
  go_ret
  exact ⟨rfl, bel_call HA.out hacc⟩
end Go.Proofs.Ytoeooabaofpngaa
