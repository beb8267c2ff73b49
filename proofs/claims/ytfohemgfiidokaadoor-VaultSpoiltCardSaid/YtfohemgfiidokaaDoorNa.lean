/- The document's numbers, checks and frames. -/
import Derived.Test.YtfohemgfiidokaaDoorYu
import Derived.Test.YtfohemgfiidokaaDoorTc
namespace Go.Proofs.YtfohemgfiidokaaDoor
open Go.RowKit Go.Sort

set_option maxRecDepth 100000 in
theorem rtwice_c (v : Value) (xs : List Int) (w : World) (hv : RdB w v xs) (hxb : Bytes xs) (hsz : xs.length ≤ 100000000) :
    Calls Tryd.prog 71 #[v] w fun e w' => e = .returned (.agg ((chk xs).map (Value.int .u8)).toArray) ∧ Below w.heap.size w w' := by
  have hs := fun W (h : RdB W v xs) => rsum_c v xs W h hxb hsz
  obtain ⟨ws, hws⟩ : ∃ ws, shaF xs = ws := ⟨_, rfl⟩
  have hwl := shaF_len xs
  have hwb := shaF_bytes xs
  rw [hws] at hwl hwb hs
  obtain ⟨vs, hvs⟩ : ∃ vs, chk xs = vs := ⟨_, rfl⟩
  have hvl := chk_len xs
  have hs2 : ∀ V v, RdB V v ws → Calls Tryd.prog 78 #[v] V fun e w' => e = .returned (.agg (vs.map (Value.int .u8)).toArray) ∧ Below V.heap.size V w' := fun V v h1 => by
    rw [← hvs, show chk xs = shaF ws by rw [← hws]; rfl]; exact rsum_c v ws V h1 hwb (by omega)
  rw [hvs] at hvl
  have HS := Lib.hid hs; have HS2 := Lib.hid hs2; have HV := Lib.hid hvs
  clear hs hs2 hws hvs
  have h1 : RowT 105 .u8 w.heap.size (List.replicate 32 0) (w.alloc (.cells ((List.replicate 32 0).map (Value.int .u8)).toArray 105)) := RowT.new _ _ _ _
  have h2 : Below w.heap.size w (w.alloc (.cells ((List.replicate 32 0).map (Value.int .u8)).toArray 105)) := bel_alloc (Below.refl _ _) _
  go_enter Tryd.func71, Tryd.ntmps71
  go_upto_region 1 with fail
  refine wp_gen (fun W => (∃ zs : List Value, zs.length = 32 ∧ RowV 105 w.heap.size zs W) ∧ Below w.heap.size w W) ⟨⟨_, by simp, h1⟩, h2⟩ ?_
  clear h1 h2
  rintro W ⟨⟨zs, hzl, h1⟩, h2⟩
  have HZ := Lib.hid (show zs.toArray.size = (vs.map (Value.int .u8)).toArray.size by simp [hzl, hvl])
  have HI := Lib.hid (info105 (vs.map (Value.int .u8)).toArray.size (by simpa using hvl))
  have HI1 := Lib.hid (info105 (ws.map (Value.int .u8)).toArray.size (by simpa using hwl))
  have HO := Lib.hid (oneCell_map .u8 vs)
  have HO1 := Lib.hid (oneCell_map .u8 ws)
  go_upto_region 2 with (first
    | (go_at_call 78; (with_reducible refine (HS.out _ (hv.keep h2)).mono ?_); rintro e w2 ⟨rfl, hb2⟩; have h3 := bel_call h2 hb2; have h12 := h1.call hb2)
    | (refine wpList_store_row rfl 105 _ _ rfl _ rfl _ rfl 105 _ (heap_alloc_new _ _) HI1.out (by simp [hwl]) HO1.out ?_))
  have hlt := h12.lt
  refine wp_gen (fun W2 => RowV 105 w2.heap.size (ws.map (Value.int .u8)) W2 ∧ RowV 105 w.heap.size zs W2 ∧ Below w.heap.size w W2) ⟨setRow_heap _ _ _ _ 105 _ (heap_alloc_new _ _), (h12.alloc _).setRow_other (by omega) _, _root_.Go.below_setRow (bel_alloc h3 _) (by omega) _⟩ ?_
  rintro W2 ⟨r1, r2, h4⟩
  have hr := hash_row ws w2.heap.size hwl W2 r1
  go_wp2_with (first
    | (go_at_call 78; (with_reducible refine (HS2.out _ _ hr).mono ?_); rintro e w4 ⟨rfl, hb4⟩; have h5 := bel_call h4 hb4; have h14 := r2.call hb4)
    | (refine wpList_store_row rfl 105 _ _ rfl _ rfl _ rfl 105 _ h14 HI.out HZ.out HO.out ?_))
  exact bodyPost_ret (v := .agg (vs.map (Value.int .u8)).toArray) (results_cell_row rfl _ _ _ 105 _ _ _ rfl (setRow_heap _ _ _ _ 105 _ h14) u_hash rfl HI.out) rfl ⟨by rw [HV.out], _root_.Go.below_setRow h5 (Nat.le_refl _) _⟩

/-- bytes that a text is turned to -/
theorem text_conv (s : ByteArray) (w : World) : ∃ cap W, (convert 9 35 (.string s)).run Tryd.prog w = .ok (.slice (some ⟨w.heap.size, 0, none⟩) s.size cap) W ∧ TextAt w.heap.size W (.slice (some ⟨w.heap.size, 0, none⟩) s.size cap) (numsOf s) ∧ Below w.heap.size w W := by
  refine ⟨grownCap w s.size 0 5, Lib.bytesWorld w 5 s, Lib.run_convert_string_bytes (P := Tryd.prog) w 9 35 5 s Tryd.underlying9 Tryd.underlying35 Tryd.underlying5, ⟨_, by rw [numsOf_len], by rw [numsOf_len]; exact grownCap_ge w s.size 0 5, fun j hj => ?_⟩, ⟨rfl, rfl, rfl, by rw [Lib.bytesWorld_size]; omega, Lib.bytesWorld_at_old w 5 s⟩⟩
  rw [numsOf_len] at hj
  rw [Lib.bytesWorld_cell w 5 s j hj]
  have hj2 : j < s.data.toList.length := by rw [Array.length_toList]; exact hj
  simp only [numsOf, List.getElem?_map, List.getElem?_eq_getElem hj2, List.getD_eq_getElem?_getD]
  rfl
set_option maxRecDepth 100000 in
theorem rcheck_c (xs : List Int) (w : World) (hxb : Bytes xs) (hsz : xs.length ≤ 100000000) :
    Calls Tryd.prog 54 #[.string (strOfNums xs)] w fun e w' => e = .returned (.string (strOfNums (chk xs))) ∧ Below w.heap.size w w' := by
  obtain ⟨cap, W, hcv, hta, hbl⟩ := text_conv (strOfNums xs) w
  rw [nums_str xs hxb] at hta
  have hs := rtwice_c _ xs W hta.rd hxb hsz
  have hvl := chk_len xs
  generalize chk xs = vs at hs hvl ⊢
  generalize strOfNums xs = s at *
  have HI := Lib.hid (info105 (vs.map (Value.int .u8)).toArray.size (by simpa using hvl))
  have HO := Lib.hid (oneCell_map .u8 vs)
  have HB := Lib.hid hbl
  clear hbl hta
  go_enter Tryd.func54, Tryd.ntmps54
  go_upto_region 2 with (first
    | (go_at_call 71; (with_reducible refine hs.mono ?_); rintro e w2 ⟨rfl, hb2⟩)
    | (refine wpList_store_row rfl 105 _ _ rfl _ rfl _ rfl 105 _ (heap_alloc_new _ _) HI.out (by simp [hvl]) HO.out ?_))
  have hb3 := bel_call HB.out hb2
  have hs2 := hb3.size
  refine wp_gen (fun W2 => RowV 105 w2.heap.size (vs.map (Value.int .u8)) W2 ∧ Below w.heap.size w W2) ⟨setRow_heap _ _ _ _ 105 _ (heap_alloc_new _ _), _root_.Go.below_setRow (bel_alloc hb3 _) (by omega) _⟩ ?_
  rintro W2 ⟨r1, h4⟩
  have ht := rd_text (hash_row vs w2.heap.size hvl W2 r1)
  go_wp2
  go_ret
  exact ⟨rfl, h4⟩

theorem str_at (xs : List Int) (hb : Bytes xs) (i : Nat) (hi : i < xs.length) (w : World) : (Instr.index 9 (.string (strOfNums xs)) (.int .i64 i)).run Tryd.prog w = .ok (.int .u8 (xs[i]?.getD 0)) w := by
  have hsz := strOfNums_size xs
  rw [run_index_string w 9 (strOfNums xs) .i64 i Tryd.underlying9, dif_pos ⟨by omega, by omega⟩]
  have h1 : xs[i]?.getD 0 = (numsOf (strOfNums xs))[i]?.getD 0 := by rw [nums_str xs hb]
  have hj2 : i < (strOfNums xs).data.toList.length := by rw [Array.length_toList]; show i < (strOfNums xs).size; omega
  rw [h1]
  simp only [numsOf, List.getElem?_map, List.getElem?_eq_getElem hj2]
  rfl
theorem str_cut (xs : List Int) (a b : Nat) : (strOfNums xs).extract a b = strOfNums ((xs.drop a).take (b - a)) := by
  unfold strOfNums
  rw [ByteArray.extract_mk, List.map_take, List.map_drop]
theorem pow_le7 (k : Nat) (hk : k ≤ 7) : (256 : Int) ^ k ≤ 72057594037927936 := by
  rcases k with _ | _ | _ | _ | _ | _ | _ | _ | k <;> first | decide | omega
set_option maxRecDepth 100000 in
theorem rnumber_c (xs : List Int) (w : World) (hb : Bytes xs) (hl : xs.length ≤ 8) :
    Calls Tryd.prog 55 #[.string (strOfNums xs)] w fun e w' => e = .returned (.int .u64 (ofBytes xs)) ∧ w' = w := by
  have hsz := strOfNums_size xs
  have HI := Lib.hid (str_at xs hb)
  generalize strOfNums xs = s at *
  go_enter Tryd.func55, Tryd.ntmps55
  go_upto_region 3 with fail
  go_loopw [3, 4] (fun x i wr => ∃ k : Nat, k ≤ xs.length ∧ i = .int .i64 ((k : Int) - 1) ∧ x = .int .u64 (ofBytes (xs.drop k)) ∧ wr = w) (fun _ i _ => (intOf i + 1).toNat)
  case atStart => exact ⟨xs.length, by omega, by go_num, by rw [List.drop_length]; rfl, rfl⟩
  case round =>
    obtain ⟨k, hk, rfl, rfl, hwr⟩ := hrel
    obtain rfl := hwr.symm
    rcases k with _ | q
    · have hd : decide ((0 : Int) ≤ ((0 : Nat) : Int) - 1) = false := by decide
      go_wp2
      go_ret
      exact ⟨rfl, rfl⟩
    · have hlt : q < xs.length := by omega
      have hix := HI.out q hlt
      have hcut : xs.drop q = xs[q]?.getD 0 :: xs.drop (q + 1) := by rw [List.drop_eq_getElem_cons hlt, List.getElem?_eq_getElem hlt]; rfl
      have hbd := hb.at q hlt
      have hbb := ofBytes_bd _ (hb.drop (q + 1))
      have hll : (xs.drop (q + 1)).length ≤ 7 := by rw [List.length_drop]; omega
      have hp := pow_le7 _ hll
      have hof : ofBytes (xs.drop q) = xs[q]?.getD 0 + 256 * ofBytes (xs.drop (q + 1)) := by rw [hcut]; rfl
      have hq1 : ((q + 1 : Nat) : Int) - 1 = (q : Int) := by omega
      rw [hq1]
      obtain ⟨acc2, hacc2⟩ : ∃ z, z = ofBytes (xs.drop q) := ⟨_, rfl⟩
      rw [← hacc2] at hof
      have HO := Lib.hid hacc2
      clear hacc2
      generalize ofBytes (xs.drop (q + 1)) = acc at *
      generalize xs[q]?.getD 0 = b at *
      have hacc : 0 ≤ acc ∧ acc < 72057594037927936 := ⟨hbb.1, by omega⟩
      have hor : bits .or .u64 (acc * 256) b = acc2 := by
        obtain ⟨u, rfl⟩ := Int.eq_ofNat_of_zero_le hacc.1
        obtain ⟨v, rfl⟩ := Int.eq_ofNat_of_zero_le hbd.1
        have h2 := or_add (u * 256) v 8 ⟨u, by omega⟩ (by omega) (by omega) (by omega)
        rw [show (u : Int) * 256 = ((u * 256 : Nat) : Int) by omega, h2, hof]; omega
      have hws : IntKind.u64.wrap (acc * 256) = acc * 256 := by rw [IntKind.wrap_u64]; omega
      clear hbb hp hll hcut
      go_wp2
      exact ⟨⟨q, by omega, rfl, by rw [← HO.out]; go_num, trivial⟩, by simp [intOf]⟩
set_option maxRecDepth 100000 in
theorem rlow_c (x n : Int) (m : Nat) (w : World) (hn : (n = 8 ∧ m = 8) ∨ (n = 4 ∧ m = 4)) :
    Calls Tryd.prog 79 #[.int .u64 x, .int .i64 n] w fun e w' => e = .returned (.string (strOfNums (low x m))) ∧ Below w.heap.size w w' := by
  have hm : (m : Int) ≤ 8 := by omega
  obtain rfl : n = (m : Int) := by omega
  clear hn
  go_enter Tryd.func79, Tryd.ntmps79
  go_upto_region 3 with fail
  go_loopw [5, 6] (fun v i wr => ∃ k : Nat, k ≤ m ∧ i = .int .i64 k ∧ RowO wr w.heap.size v (low x k) ∧ Below w.heap.size w wr) (fun _ i _ => m - (intOf i).toNat)
  case atStart => exact ⟨0, by omega, rfl, World.ownsRow_nil _ _ _ _, Below.refl _ _⟩
  case round =>
    obtain ⟨k, hk, rfl, hR, hB⟩ := hrel
    have hll := low_length x k
    obtain ⟨q, cq, hform⟩ := (RowO.rd hR).form
    subst hform
    rw [hll] at hR ⊢
    by_cases hlt : k < m
    · have hw8 : IntKind.i64.wrap (8 * (k : Int)) = 8 * (k : Int) := by rw [IntKind.wrap_i64]; omega
      have hpw := two_pow8 k
      have hls : low x (k + 1) = low x k ++ [x / 256 ^ k % 256] := low_succ x k
      have HLS := Lib.hid hls
      have HR := Lib.hid (RowO.keep hR (bel_alloc (Below.refl _ wr) (.cells #[.int .u8 (x / 256 ^ k % 256)] 5)))
      have HB := Lib.hid (hB.alloc hB.size (.cells #[.int .u8 (x / 256 ^ k % 256)] 5))
      have HL := Lib.hid (show (low x k).length + [x / 256 ^ k % 256].length ≤ 1000000000 by rw [hll]; simp; omega)
      clear hR hB hls hll
      go_wp2_with (at_builtin; refine wpList_append_rd rfl _ _ rfl w.heap.size HB.out.size _ _ rfl HR.out _ [x / 256 ^ k % 256] rfl (rdb_one _ _) HL.out ?_; intro v3 w3 hr3 hg3; have hb3 := Lib.hid (grown_below HR.out HB.out HB.out.size hg3); have HR3 := Lib.hid hr3; clear hg3 hr3)
      have hr3 := HR3.out
      rw [← HLS.out] at hr3
      exact ⟨⟨k + 1, by omega, by go_num, hr3, hb3.out⟩, by simp [intOf]; omega⟩
    · obtain rfl : k = m := by omega
      have ht := rd_text (RowO.rd hR)
      have HB := Lib.hid hB
      clear hR hB
      go_wp2
      go_ret
      exact ⟨rfl, HB.out⟩
end Go.Proofs.YtfohemgfiidokaaDoor
