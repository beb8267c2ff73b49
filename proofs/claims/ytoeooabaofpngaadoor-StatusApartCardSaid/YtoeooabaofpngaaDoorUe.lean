/- The reference's Back and Turned. -/
import Derived.Test.YtoeooabaofpngaaDoorUd
namespace Go.Proofs.YtoeooabaofpngaaDoor
open Go.RowKit Go.Sort
/-- what is turned when k bytes are -/
def revTo (hs : List Int) (k : Nat) : List Int := hs.reverse.take k ++ List.replicate (32 - k) 0
theorem revTo_len (hs : List Int) (k : Nat) (hl : hs.length = 32) (hk : k ≤ 32) : (revTo hs k).length = 32 := by simp [revTo, hl]; omega
theorem revTo_all (hs : List Int) (hl : hs.length = 32) : revTo hs 32 = hs.reverse := by simp [revTo, List.take_of_length_le, hl]
theorem revTo_set (hs : List Int) (k : Nat) (hl : hs.length = 32) (hk : k < 32) : (revTo hs k).set k (hs[31 - k]?.getD 0) = revTo hs (k + 1) := by
  unfold revTo
  have hlen : (hs.reverse.take k).length = k := by simp [hl]; omega
  rw [List.set_append, if_neg (by omega), hlen, Nat.sub_self, show 32 - k = (32 - (k + 1)) + 1 by omega, List.replicate_succ, List.set_cons_zero]
  rw [List.take_succ_eq_append_getElem (by simp [hl]; omega), List.append_assoc]
  congr 1
  simp only [List.cons_append, List.nil_append, List.getElem_reverse, hl]
  congr 1
  rw [List.getElem?_eq_getElem (by omega)]
  simp only [Option.getD_some]
set_option maxRecDepth 100000 in
theorem back_c (hs : List Int) (w : World) (hl : hs.length = 32) :
    Calls Tryd.prog 24 #[hsh hs] w fun e w' => e = .returned (hsh hs.reverse) ∧ Below w.heap.size w w' := by
  have hl2 : hs.length = (hs.map (Value.int .u8)).toArray.size := by simp
  unfold hsh
  go_enter Tryd.func24, Tryd.ntmps24
  go_wp2_with fail
  refine wp_gen (fun W => RowU w.heap.size hs W ∧ RowU (w.heap.size + 1) (revTo hs 0) W ∧ RowU (w.heap.size + 1 + 1) (revTo hs 0) W ∧ Below w.heap.size w W) ⟨?_, ?_, ?_, ?_⟩ ?_
  · exact ((RowU.new w hs).alloc _).alloc _
  · have := (RowU.new (w.alloc (.cells (hs.map (Value.int .u8)).toArray 27)) (revTo hs 0)).alloc (.cells ((revTo hs 0).map (Value.int .u8)).toArray 27)
    simp only [World.size_alloc] at this
    exact this
  · have := RowU.new ((w.alloc (.cells (hs.map (Value.int .u8)).toArray 27)).alloc (.cells ((revTo hs 0).map (Value.int .u8)).toArray 27)) (revTo hs 0)
    simp only [World.size_alloc] at this
    exact this
  · exact bel_alloc (bel_alloc (bel_alloc (Below.refl _ _) _) _) _
  rintro W ⟨cA, cR, cO, hB⟩
  go_loopw [4] (fun i wr => ∃ k : Nat, k ≤ 32 ∧ i = .int .i64 k ∧ RowU w.heap.size hs wr ∧ RowU (w.heap.size + 1) (revTo hs 0) wr ∧ RowU (w.heap.size + 1 + 1) (revTo hs k) wr ∧ Below w.heap.size w wr) (fun i _ => 32 - (intOf i).toNat)
  case atStart => exact ⟨0, by omega, rfl, cA, cR, cO, hB⟩
  case round =>
    obtain ⟨k, hk, rfl, cA, cR, cO, hB⟩ := hrel
    have HB := hB.size
    by_cases hlt : k < 32
    · have c1 := cA.cell (31 - k) (by omega)
      have f1 := cO.frozen k
      have c2 := cO.cell k (by rw [revTo_len hs k hl hk]; exact hlt)
      have hst := revTo_set hs k hl hlt
      generalize hs[31 - k]?.getD 0 = p at *
      have e31 : IntKind.i64.wrap (31 - (k : Int)) = ((31 - k : Nat) : Int) := by rw [IntKind.wrap_i64]; omega
      have HS := Lib.hid hst
      have CA := Lib.hid cA; have CR := Lib.hid cR; have CO := Lib.hid cO
      have HL := Lib.hid hl; have HL2 := Lib.hid hl2
      clear hst cA cR cO hl hl2
      go_wp2
      go_roundw
      case rel => exact ⟨k + 1, by omega, by go_num, CA.out.set_other (by omega) _, CR.out.set_other (by omega) _, by rw [← HS.out]; exact CO.out.set k p, hB.setCell (p := ⟨_, k, none⟩) (by simp; omega) _⟩
      case measure => simp [intOf]; omega
    · obtain rfl : k = 32 := by omega
      rw [revTo_all hs hl] at cO
      have hrl : hs.reverse.length = 32 := by simp [hl]
      have cO' : wr.heap[w.heap.size + 1 + 1]? = some (.cells (hs.reverse.map (Value.int .u8)).toArray 27 (0, 0)) := cO
      have cR' : wr.heap[w.heap.size + 1]? = some (.cells ((revTo hs 0).map (Value.int .u8)).toArray 27 (0, 0)) := cR
      go_wp2_with (first | (refine wpList_load_row rfl 27 _ rfl _ rfl 27 _ _ _ cO' Tryd.underlying27 rfl (info27 _ (by simp [hl])) ?_) | (refine wpList_store_row rfl 27 _ _ rfl _ rfl _ rfl 27 _ cR' (info27 _ (by simp [hl])) (by simp [hl, revTo]) (oneCell_map _ _) ?_))
      exact bodyPost_ret (v := hsh hs.reverse) (results_cell_row rfl _ _ _ 27 _ _ _ rfl (setRow_heap wr _ _ _ 27 _ cR') Tryd.underlying27 rfl (info27 _ (by simp [hl]))) rfl ⟨rfl, _root_.Go.below_setRow hB (by omega) _⟩

set_option maxRecDepth 100000 in
theorem rturned_c (hs : List Int) (w : World) (hl : hs.length = 32) (hb : Bytes hs) :
    Calls Tryd.prog 13 #[hsh hs] w fun e w' => e = .returned (.string (strOfNums (hexI hs.reverse))) ∧ Below w.heap.size w w' := by
  have kb : ∀ W, Calls Tryd.prog 24 #[.agg (hs.map (Value.int .u8)).toArray] W fun e w' => e = .returned (.agg (hs.reverse.map (Value.int .u8)).toArray) ∧ Below W.heap.size W w' := fun W => back_c hs W hl
  have hrl : hs.reverse.length = 32 := by simp [hl]
  have hbr : Bytes hs.reverse := fun b hb' => hb b (by simpa using hb')
  have i1 := info27 (hs.map (Value.int .u8)).toArray.size (by simp [hl])
  have i2 := info27 (hs.reverse.map (Value.int .u8)).toArray.size (by simp [hl])
  have hz : (Array.replicate 32 (Value.int .u8 0)).size = (hs.reverse.map (Value.int .u8)).toArray.size := by simp [hl]
  have CH := Lib.hid (RowU.new w hs)
  have I1 := Lib.hid i1; have I2 := Lib.hid i2; have HR := Lib.hid hrl; have HZ := Lib.hid hz
  clear hl i1 i2 hrl hz
  unfold hsh
  generalize hs.reverse = rs at *
  go_enter Tryd.func13, Tryd.ntmps13
  go_upto_region 2 with (first | (refine wpList_load_row rfl 27 _ rfl _ rfl 27 _ _ _ CH.out Tryd.underlying27 rfl I1.out ?_) | (go_at_call 24; with_reducible refine (kb _).mono ?_; rintro e w1 ⟨rfl, hb1⟩; have hb2 := (bel_alloc (Below.refl _ w) (.cells (hs.map (Value.int .u8)).toArray 27)).trans (hb1.mono (by simp))) | (refine wpList_store_row rfl 27 _ _ rfl _ rfl _ rfl 27 _ (heap_alloc_new _ _) I2.out HZ.out (oneCell_map _ _) ?_))
  refine wp_gen (fun W => RowU w1.heap.size rs W ∧ Below w.heap.size w W) ⟨setRow_heap _ _ _ _ 27 _ (heap_alloc_new _ _), below_setRow (bel_alloc hb2 _) hb2.size (by simp) _⟩ ?_
  rintro W ⟨cR, hB⟩
  have krd := cR.rd (cap := 32) (by have := HR.out; omega)
  rw [HR.out] at krd
  simp only [Act.put]
  go_wp2_with (go_at_call 14; with_reducible refine (rhex_c _ _ _ krd hbr (by have := HR.out; omega)).mono ?_; rintro e w2 ⟨rfl, hb3⟩)
  go_ret
  exact ⟨rfl, bel_call hB hb3⟩
end Go.Proofs.YtoeooabaofpngaaDoor
