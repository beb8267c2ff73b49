/- The document's numbers, checks and frames. The document's frames, and the record of the first one. The document's vault: whether a record is too long, a head, frames of records. -/
import Derived.Test.YtfohemgfiidokaaGreatDoorYu
import Derived.Test.YtfohemgfiidokaaGreatDoorTc
namespace Go.Proofs.YtfohemgfiidokaaGreatDoor
open Go.RowKit Go.Sort

set_option maxRecDepth 100000 in
theorem rtwice_c (v : Value) (xs : List Int) (w : World) (hv : RdB w v xs) (hxb : Bytes xs) (hsz : xs.length ≤ 100000000) :
    Calls Tryz.prog 99 #[v] w fun e w' => e = .returned (.agg ((chk xs).map (Value.int .u8)).toArray) ∧ Below w.heap.size w w' := by
  have hs := fun W (h : RdB W v xs) => rsum_c v xs W h hxb hsz
  obtain ⟨ws, hws⟩ : ∃ ws, shaF xs = ws := ⟨_, rfl⟩
  have hwl := shaF_len xs
  have hwb := shaF_bytes xs
  rw [hws] at hwl hwb hs
  obtain ⟨vs, hvs⟩ : ∃ vs, chk xs = vs := ⟨_, rfl⟩
  have hvl := chk_len xs
  have hs2 : ∀ V v, RdB V v ws → Calls Tryz.prog 102 #[v] V fun e w' => e = .returned (.agg (vs.map (Value.int .u8)).toArray) ∧ Below V.heap.size V w' := fun V v h1 => by
    rw [← hvs, show chk xs = shaF ws by rw [← hws]; rfl]; exact rsum_c v ws V h1 hwb (by omega)
  rw [hvs] at hvl
  have HS := Lib.hid hs; have HS2 := Lib.hid hs2; have HV := Lib.hid hvs
  clear hs hs2 hws hvs
  have h1 : RowT 136 .u8 w.heap.size (List.replicate 32 0) (w.alloc (.cells ((List.replicate 32 0).map (Value.int .u8)).toArray 136)) := RowT.new _ _ _ _
  have h2 : Below w.heap.size w (w.alloc (.cells ((List.replicate 32 0).map (Value.int .u8)).toArray 136)) := bel_alloc (Below.refl _ _) _
  go_enter Tryz.func99, Tryz.ntmps99
  go_upto_region 1 with fail
  refine wp_gen (fun W => (∃ zs : List Value, zs.length = 32 ∧ RowV 136 w.heap.size zs W) ∧ Below w.heap.size w W) ⟨⟨_, by simp, h1⟩, h2⟩ ?_
  clear h1 h2
  rintro W ⟨⟨zs, hzl, h1⟩, h2⟩
  have HZ := Lib.hid (show zs.toArray.size = (vs.map (Value.int .u8)).toArray.size by simp [hzl, hvl])
  have HI := Lib.hid (info136 (vs.map (Value.int .u8)).toArray.size (by simpa using hvl))
  have HI1 := Lib.hid (info136 (ws.map (Value.int .u8)).toArray.size (by simpa using hwl))
  have HO := Lib.hid (oneCell_map .u8 vs)
  have HO1 := Lib.hid (oneCell_map .u8 ws)
  go_upto_region 2 with (first
    | (go_at_call 102; (with_reducible refine (HS.out _ (hv.keep h2)).mono ?_); rintro e w2 ⟨rfl, hb2⟩; have h3 := bel_call h2 hb2; have h12 := h1.call hb2)
    | (refine wpList_store_row rfl 136 _ _ rfl _ rfl _ rfl 136 _ (heap_alloc_new _ _) HI1.out (by simp [hwl]) HO1.out ?_))
  have hlt := h12.lt
  refine wp_gen (fun W2 => RowV 136 w2.heap.size (ws.map (Value.int .u8)) W2 ∧ RowV 136 w.heap.size zs W2 ∧ Below w.heap.size w W2) ⟨setRow_heap _ _ _ _ 136 _ (heap_alloc_new _ _), (h12.alloc _).setRow_other (by omega) _, _root_.Go.below_setRow (bel_alloc h3 _) (by omega) _⟩ ?_
  rintro W2 ⟨r1, r2, h4⟩
  have hr := hash_row ws w2.heap.size hwl W2 r1
  go_wp2_with (first
    | (go_at_call 102; (with_reducible refine (HS2.out _ _ hr).mono ?_); rintro e w4 ⟨rfl, hb4⟩; have h5 := bel_call h4 hb4; have h14 := r2.call hb4)
    | (refine wpList_store_row rfl 136 _ _ rfl _ rfl _ rfl 136 _ h14 HI.out HZ.out HO.out ?_))
  exact bodyPost_ret (v := .agg (vs.map (Value.int .u8)).toArray) (results_cell_row rfl _ _ _ 136 _ _ _ rfl (setRow_heap _ _ _ _ 136 _ h14) u_hash rfl HI.out) rfl ⟨by rw [HV.out], _root_.Go.below_setRow h5 (Nat.le_refl _) _⟩

/-- bytes that a text is turned to -/
theorem text_conv (s : ByteArray) (w : World) : ∃ cap W, (convert 9 40 (.string s)).run Tryz.prog w = .ok (.slice (some ⟨w.heap.size, 0, none⟩) s.size cap) W ∧ TextAt w.heap.size W (.slice (some ⟨w.heap.size, 0, none⟩) s.size cap) (numsOf s) ∧ Below w.heap.size w W := by
  refine ⟨grownCap w s.size 0 5, Lib.bytesWorld w 5 s, Lib.run_convert_string_bytes (P := Tryz.prog) w 9 40 5 s Tryz.underlying9 Tryz.underlying40 Tryz.underlying5, ⟨_, by rw [numsOf_len], by rw [numsOf_len]; exact grownCap_ge w s.size 0 5, fun j hj => ?_⟩, ⟨rfl, rfl, rfl, by rw [Lib.bytesWorld_size]; omega, Lib.bytesWorld_at_old w 5 s⟩⟩
  rw [numsOf_len] at hj
  rw [Lib.bytesWorld_cell w 5 s j hj]
  have hj2 : j < s.data.toList.length := by rw [Array.length_toList]; exact hj
  simp only [numsOf, List.getElem?_map, List.getElem?_eq_getElem hj2, List.getD_eq_getElem?_getD]
  rfl
set_option maxRecDepth 100000 in
theorem rcheck_c (xs : List Int) (w : World) (hxb : Bytes xs) (hsz : xs.length ≤ 100000000) :
    Calls Tryz.prog 86 #[.string (strOfNums xs)] w fun e w' => e = .returned (.string (strOfNums (chk xs))) ∧ Below w.heap.size w w' := by
  obtain ⟨cap, W, hcv, hta, hbl⟩ := text_conv (strOfNums xs) w
  rw [nums_str xs hxb] at hta
  have hs := rtwice_c _ xs W hta.rd hxb hsz
  have hvl := chk_len xs
  generalize chk xs = vs at hs hvl ⊢
  generalize strOfNums xs = s at *
  have HI := Lib.hid (info136 (vs.map (Value.int .u8)).toArray.size (by simpa using hvl))
  have HO := Lib.hid (oneCell_map .u8 vs)
  have HB := Lib.hid hbl
  clear hbl hta
  go_enter Tryz.func86, Tryz.ntmps86
  go_upto_region 2 with (first
    | (go_at_call 99; (with_reducible refine hs.mono ?_); rintro e w2 ⟨rfl, hb2⟩)
    | (refine wpList_store_row rfl 136 _ _ rfl _ rfl _ rfl 136 _ (heap_alloc_new _ _) HI.out (by simp [hvl]) HO.out ?_))
  have hb3 := bel_call HB.out hb2
  have hs2 := hb3.size
  refine wp_gen (fun W2 => RowV 136 w2.heap.size (vs.map (Value.int .u8)) W2 ∧ Below w.heap.size w W2) ⟨setRow_heap _ _ _ _ 136 _ (heap_alloc_new _ _), _root_.Go.below_setRow (bel_alloc hb3 _) (by omega) _⟩ ?_
  rintro W2 ⟨r1, h4⟩
  have ht := rd_text (hash_row vs w2.heap.size hvl W2 r1)
  go_wp2
  go_ret
  exact ⟨rfl, h4⟩

theorem str_at (xs : List Int) (hb : Bytes xs) (i : Nat) (hi : i < xs.length) (w : World) : (Instr.index 9 (.string (strOfNums xs)) (.int .i64 i)).run Tryz.prog w = .ok (.int .u8 (xs[i]?.getD 0)) w := by
  have hsz := strOfNums_size xs
  rw [run_index_string w 9 (strOfNums xs) .i64 i Tryz.underlying9, dif_pos ⟨by omega, by omega⟩]
  have h1 : xs[i]?.getD 0 = (numsOf (strOfNums xs))[i]?.getD 0 := by rw [nums_str xs hb]
  have hj2 : i < (strOfNums xs).data.toList.length := by rw [Array.length_toList]; show i < (strOfNums xs).size; omega
  rw [h1]
  simp only [numsOf, List.getElem?_map, List.getElem?_eq_getElem hj2]
  rfl
theorem str_cut (xs : List Int) (a b : Nat) : (strOfNums xs).extract a b = strOfNums ((xs.drop a).take (b - a)) := by
  unfold strOfNums
  rw [ByteArray.extract_mk, List.map_take, List.map_drop]
theorem pow_le7 (k : Nat) (hk : k ≤ 7) : (256 : Int) ^ k ≤ 72057594037927936 := by
  rcases k with _ | _ | _ | _ | _ | _ | _ | _ | k <;> first | decide | omega
set_option maxRecDepth 100000 in
theorem rnumber_c (xs : List Int) (w : World) (hb : Bytes xs) (hl : xs.length ≤ 8) :
    Calls Tryz.prog 87 #[.string (strOfNums xs)] w fun e w' => e = .returned (.int .u64 (ofBytes xs)) ∧ w' = w := by
  have hsz := strOfNums_size xs
  have HI := Lib.hid (str_at xs hb)
  generalize strOfNums xs = s at *
  go_enter Tryz.func87, Tryz.ntmps87
  go_upto_region 3 with fail
  go_loopw [3, 4] (fun x i wr => ∃ k : Nat, k ≤ xs.length ∧ i = .int .i64 ((k : Int) - 1) ∧ x = .int .u64 (ofBytes (xs.drop k)) ∧ wr = w) (fun _ i _ => (intOf i + 1).toNat)
  case atStart => exact ⟨xs.length, by omega, by go_num, by rw [List.drop_length]; rfl, rfl⟩
  case round =>
    obtain ⟨k, hk, rfl, rfl, hwr⟩ := hrel
    obtain rfl := hwr.symm
    rcases k with _ | q
    · have hd : decide ((0 : Int) ≤ ((0 : Nat) : Int) - 1) = false := by decide
      go_wp2
      go_ret
      exact ⟨rfl, rfl⟩
    · have hlt : q < xs.length := by omega
      have hix := HI.out q hlt
      have hcut : xs.drop q = xs[q]?.getD 0 :: xs.drop (q + 1) := by rw [List.drop_eq_getElem_cons hlt, List.getElem?_eq_getElem hlt]; rfl
      have hbd := hb.at q hlt
      have hbb := ofBytes_bd _ (hb.drop (q + 1))
      have hll : (xs.drop (q + 1)).length ≤ 7 := by rw [List.length_drop]; omega
      have hp := pow_le7 _ hll
      have hof : ofBytes (xs.drop q) = xs[q]?.getD 0 + 256 * ofBytes (xs.drop (q + 1)) := by rw [hcut]; rfl
      have hq1 : ((q + 1 : Nat) : Int) - 1 = (q : Int) := by omega
      rw [hq1]
      obtain ⟨acc2, hacc2⟩ : ∃ z, z = ofBytes (xs.drop q) := ⟨_, rfl⟩
      rw [← hacc2] at hof
      have HO := Lib.hid hacc2
      clear hacc2
      generalize ofBytes (xs.drop (q + 1)) = acc at *
      generalize xs[q]?.getD 0 = b at *
      have hacc : 0 ≤ acc ∧ acc < 72057594037927936 := ⟨hbb.1, by omega⟩
      have hor : bits .or .u64 (acc * 256) b = acc2 := by
        obtain ⟨u, rfl⟩ := Int.eq_ofNat_of_zero_le hacc.1
        obtain ⟨v, rfl⟩ := Int.eq_ofNat_of_zero_le hbd.1
        have h2 := or_add (u * 256) v 8 ⟨u, by omega⟩ (by omega) (by omega) (by omega)
        rw [show (u : Int) * 256 = ((u * 256 : Nat) : Int) by omega, h2, hof]; omega
      have hws : IntKind.u64.wrap (acc * 256) = acc * 256 := by rw [IntKind.wrap_u64]; omega
      clear hbb hp hll hcut
      go_wp2
      exact ⟨⟨q, by omega, rfl, by rw [← HO.out]; go_num, trivial⟩, by simp [intOf]⟩
set_option maxRecDepth 100000 in
theorem rlow_c (x n : Int) (m : Nat) (w : World) (hn : (n = 8 ∧ m = 8) ∨ (n = 4 ∧ m = 4)) :
    Calls Tryz.prog 92 #[.int .u64 x, .int .i64 n] w fun e w' => e = .returned (.string (strOfNums (low x m))) ∧ Below w.heap.size w w' := by
  have hm : (m : Int) ≤ 8 := by omega
  obtain rfl : n = (m : Int) := by omega
  clear hn
  go_enter Tryz.func92, Tryz.ntmps92
  go_upto_region 3 with fail
  go_loopw [5, 6] (fun v i wr => ∃ k : Nat, k ≤ m ∧ i = .int .i64 k ∧ RowO wr w.heap.size v (low x k) ∧ Below w.heap.size w wr) (fun _ i _ => m - (intOf i).toNat)
  case atStart => exact ⟨0, by omega, rfl, World.ownsRow_nil _ _ _ _, Below.refl _ _⟩
  case round =>
    obtain ⟨k, hk, rfl, hR, hB⟩ := hrel
    have hll := low_length x k
    obtain ⟨q, cq, hform⟩ := (RowO.rd hR).form
    subst hform
    rw [hll] at hR ⊢
    by_cases hlt : k < m
    · have hw8 : IntKind.i64.wrap (8 * (k : Int)) = 8 * (k : Int) := by rw [IntKind.wrap_i64]; omega
      have hpw := two_pow8 k
      have hls : low x (k + 1) = low x k ++ [x / 256 ^ k % 256] := low_succ x k
      have HLS := Lib.hid hls
      have HR := Lib.hid (RowO.keep hR (bel_alloc (Below.refl _ wr) (.cells #[.int .u8 (x / 256 ^ k % 256)] 5)))
      have HB := Lib.hid (hB.alloc hB.size (.cells #[.int .u8 (x / 256 ^ k % 256)] 5))
      have HL := Lib.hid (show (low x k).length + [x / 256 ^ k % 256].length ≤ 1000000000 by rw [hll]; simp; omega)
      clear hR hB hls hll
      go_wp2_with (at_builtin; refine wpList_append_rd rfl _ _ rfl w.heap.size HB.out.size _ _ rfl HR.out _ [x / 256 ^ k % 256] rfl (rdb_one _ _) HL.out ?_; intro v3 w3 hr3 hg3; have hb3 := Lib.hid (grown_below HR.out HB.out HB.out.size hg3); have HR3 := Lib.hid hr3; clear hg3 hr3)
      have hr3 := HR3.out
      rw [← HLS.out] at hr3
      exact ⟨⟨k + 1, by omega, by go_num, hr3, hb3.out⟩, by simp [intOf]; omega⟩
    · obtain rfl : k = m := by omega
      have ht := rd_text (RowO.rd hR)
      have HB := Lib.hid hB
      clear hR hB
      go_wp2
      go_ret
      exact ⟨rfl, HB.out⟩
end Go.Proofs.YtfohemgfiidokaaGreatDoor
namespace Go.Proofs.YtfohemgfiidokaaGreatDoor
open Go.RowKit Go.Sort

set_option maxRecDepth 100000 in
theorem rframe_c (g k : Int) (r : List Int) (w : World) (hk : 0 ≤ k ∧ k ≤ 1000000000) (hr : Bytes r) (hl : r.length ≤ 10000000) :
    Calls Tryz.prog 93 #[.int .u64 g, .int .i64 k, .string (strOfNums r)] w fun e w' => e = .returned (.string (strOfNums (frameI g k r))) ∧ Below w.heap.size w w' := by
  have hsz := strOfNums_size r
  have h1 := fun W => rlow_c (r.length : Int) 4 4 W (.inr ⟨rfl, rfl⟩)
  have h2 := fun W => rlow_c g 8 8 W (.inl ⟨rfl, rfl⟩)
  have h3 := fun W => rlow_c k 8 8 W (.inl ⟨rfl, rfl⟩)
  have hb1 := low_bytes (r.length : Int) 4
  have hb2 := low_bytes g 8
  have hb3 := low_bytes k 8
  have hl1 := low_length (r.length : Int) 4
  have hl2 := low_length g 8
  have hl3 := low_length k 8
  have h4 := fun W => rcheck_c (low g 8 ++ low k 8 ++ (low (r.length : Int) 4 ++ r)) W ((hb2.append hb3).append (hb1.append hr)) (by simp only [List.length_append]; omega)
  have hcl := chk_len (low g 8 ++ low k 8 ++ (low (r.length : Int) 4 ++ r))
  have a1 := str_add (low (r.length : Int) 4) r (by omega)
  have a2 := str_add (low g 8) (low k 8) (by omega)
  have a3 := str_add (low g 8 ++ low k 8) (low (r.length : Int) 4 ++ r) (by simp only [List.length_append]; omega)
  have a4 := str_add (low (r.length : Int) 4 ++ r) (chk (low g 8 ++ low k 8 ++ (low (r.length : Int) 4 ++ r))) (by simp only [List.length_append]; omega)
  have hfr : frameI g k r = low (r.length : Int) 4 ++ r ++ chk (low g 8 ++ low k 8 ++ (low (r.length : Int) 4 ++ r)) := by rw [frameI, recI, fchk, List.append_assoc (low g 8)]
  have hw1 : IntKind.u64.wrap (r.length : Int) = r.length := by rw [IntKind.wrap_u64]; omega
  have hw2 : IntKind.u64.wrap k = k := by rw [IntKind.wrap_u64]; omega
  rw [hfr]
  have H1 := Lib.hid h1; have H2 := Lib.hid h2; have H3 := Lib.hid h3; have H4 := Lib.hid h4
  clear h1 h2 h3 h4 hb1 hb2 hb3 hl1 hl2 hl3 hcl hfr hr
  generalize strOfNums (low (r.length : Int) 4 ++ r ++ chk (low g 8 ++ low k 8 ++ (low (r.length : Int) 4 ++ r))) = s7 at *
  generalize strOfNums (chk (low g 8 ++ low k 8 ++ (low (r.length : Int) 4 ++ r))) = s6 at *
  generalize strOfNums (low g 8 ++ low k 8 ++ (low (r.length : Int) 4 ++ r)) = s5 at *
  generalize strOfNums (low (r.length : Int) 4 ++ r) = s4 at *
  generalize strOfNums (low g 8 ++ low k 8) = s3 at *
  generalize strOfNums (low (r.length : Int) 4) = s1 at *
  generalize strOfNums (low g 8) = s2 at *
  generalize strOfNums (low k 8) = s8 at *
  generalize strOfNums r = s at *
  go_enter Tryz.func93, Tryz.ntmps93
  go_upto_region 2 with (go_at_call 92; (with_reducible refine (H1.out _).mono ?_); rintro e w1 ⟨rfl, b1⟩)
  have HB := Lib.hid b1
  clear b1
  go_wp2_with (first
    | (go_at_call 92; (with_reducible refine (H2.out _).mono ?_); rintro e w2 ⟨rfl, b2⟩; have b3 := Lib.hid (bel_call HB.out b2); clear b2)
    | (go_at_call 92; (with_reducible refine (H3.out _).mono ?_); rintro e w3 ⟨rfl, b4⟩; have b5 := Lib.hid (bel_call b3.out b4); clear b4)
    | (go_at_call 86; (with_reducible refine (H4.out _).mono ?_); rintro e w4 ⟨rfl, b6⟩; have b7 := Lib.hid (bel_call b5.out b6); clear b6)
    | fail)
  go_ret
  exact ⟨rfl, b7.out⟩
/-- what first tells -/
def FirstT (g k : Int) (xs : List Int) (e : Ending) : Prop :=
  match nxt g k xs with
  | none => ∃ s, e = .returned (.tuple #[.string s, .bool false])
  | some (r, _) => e = .returned (.tuple #[.string (strOfNums r), .bool true])
theorem firstT_none {g k : Int} {xs : List Int} (h : nxt g k xs = none) (s : ByteArray) : FirstT g k xs (.returned (.tuple #[.string s, .bool false])) := by
  unfold FirstT; rw [h]; exact ⟨s, rfl⟩
set_option maxRecDepth 100000 in
set_option maxHeartbeats 1000000 in
theorem first_c (g k : Int) (xs : List Int) (w : World) (hk : 0 ≤ k ∧ k ≤ 1000000000) (hx : Bytes xs) (hl : xs.length ≤ 1000000) :
    Calls Tryz.prog 88 #[.string (strOfNums xs), .int .u64 g, .int .i64 k] w fun e w' => FirstT g k xs e ∧ Below w.heap.size w w' := by
  have hsz := strOfNums_size xs
  by_cases h4 : xs.length < 4
  · have hn : nxt g k xs = none := by unfold nxt; rw [if_pos (by omega)]
    have HN := Lib.hid (firstT_none hn)
    clear hn
    generalize strOfNums xs = s at *
    go_enter Tryz.func88, Tryz.ntmps88
    go_wp2
    go_ret2
    exact ⟨HN.out _, Below.refl _ _⟩
  have he4 : (strOfNums xs).extract 0 4 = strOfNums (xs.take 4) := by rw [str_cut]; rfl
  have hnum := fun W => rnumber_c (xs.take 4) W (hx.take 4) (by rw [List.length_take]; omega)
  have hbd := ofBytes_bd _ (hx.take 4)
  have hl4 : (xs.take 4).length = 4 := by rw [List.length_take]; omega
  rw [hl4] at hbd
  have hlow := low_ofBytes (xs.take 4) (hx.take 4)
  rw [hl4] at hlow
  obtain ⟨n, hn⟩ := Int.eq_ofNat_of_zero_le hbd.1
  rw [hn] at hnum hbd hlow
  have hbd2 : (n : Int) < 4294967296 := hbd.2
  clear hbd
  have hw1 : IntKind.u64.wrap ((n : Int) + 36) = (n : Int) + 36 := by rw [IntKind.wrap_u64]; omega
  have hw2 : IntKind.u64.wrap (xs.length : Int) = xs.length := by rw [IntKind.wrap_u64]; omega
  have hw3 : IntKind.u64.wrap (4 + (n : Int)) = 4 + (n : Int) := by rw [IntKind.wrap_u64]; omega
  have hw4 : IntKind.u64.wrap ((4 : Int) + (n : Int)) = 4 + (n : Int) := hw3
  clear hbd2
  by_cases hbig : 32768 < n ∨ xs.length < n + 36
  · have hnx : nxt g k xs = none := by
      unfold nxt
      by_cases h36 : xs.length < 36
      · rw [if_pos h36]
      · rw [if_neg h36, hn, if_pos (by omega)]
    have HN := Lib.hid (firstT_none hnx)
    clear hnx hn hlow
    have HU := Lib.hid hnum
    clear hnum
    generalize strOfNums (xs.take 4) = s4 at *
    generalize strOfNums xs = s at *
    by_cases h3 : 32768 < n
    · have hd : decide ((32768 : Int) < (n : Int)) = true := decide_eq_true (by omega)
      clear hbig
      go_enter Tryz.func88, Tryz.ntmps88
      go_wp2_with (go_at_call 87; (with_reducible refine (HU.out _).mono ?_); rintro e w2 ⟨rfl, rfl⟩)
      go_ret2
      exact ⟨HN.out _, Below.refl _ _⟩
    · have hd : decide ((32768 : Int) < (n : Int)) = false := decide_eq_false (by omega)
      have hd2 : decide ((xs.length : Int) < (n : Int) + 36) = true := decide_eq_true (by omega)
      clear hbig
      go_enter Tryz.func88, Tryz.ntmps88
      go_wp2_with (go_at_call 87; (with_reducible refine (HU.out _).mono ?_); rintro e w2 ⟨rfl, rfl⟩)
      go_ret2
      exact ⟨HN.out _, Below.refl _ _⟩
  · have hn1 : n ≤ 32768 := by omega
    have hn2 : n + 36 ≤ xs.length := by omega
    clear hbig
    have her : (strOfNums xs).extract 4 (4 + n) = strOfNums ((xs.drop 4).take n) := by rw [str_cut, show 4 + n - 4 = n by omega]
    have hes : (strOfNums xs).extract 0 (n + 36) = strOfNums (xs.take (n + 36)) := by rw [str_cut]; rfl
    have hrl : ((xs.drop 4).take n).length = n := by rw [List.length_take, List.length_drop]; omega
    have hrb : Bytes ((xs.drop 4).take n) := (hx.drop 4).take n
    have hrec : recI ((xs.drop 4).take n) = xs.take (n + 4) := by
      rw [recI, hrl, hlow, Nat.add_comm n 4, List.take_add]
    have hfr : frameI g k ((xs.drop 4).take n) = xs.take (n + 4) ++ fchk g k (xs.take (n + 4)) := by rw [frameI, hrec]
    have htk : xs.take (n + 36) = xs.take (n + 4) ++ (xs.drop (n + 4)).take 32 := by rw [show n + 36 = n + 4 + 32 by omega, List.take_add]
    have hiff : xs.take (n + 36) = frameI g k ((xs.drop 4).take n) ↔ fchk g k (xs.take (n + 4)) = (xs.drop (n + 4)).take 32 := by
      rw [hfr, htk]
      constructor
      · intro h; exact (List.append_cancel_left h).symm
      · intro h; rw [h]
    have hfb : Bytes (frameI g k ((xs.drop 4).take n)) := by rw [hfr]; exact (hx.take _).append (chk_bytes _)
    have hnx : nxt g k xs = if fchk g k (xs.take (n + 4)) = (xs.drop (n + 4)).take 32 then some ((xs.drop 4).take n, xs.drop (n + 36)) else none := by
      unfold nxt
      rw [if_neg (by omega), hn, if_neg (by omega), Int.toNat_natCast, List.drop_take, show n + 4 - 4 = n by omega]
    have hF := fun W => rframe_c g k ((xs.drop 4).take n) W hk hrb (by omega)
    have hbq := str_beq (xs.take (n + 36)) (frameI g k ((xs.drop 4).take n)) (hx.take _) hfb (decide (fchk g k (xs.take (n + 4)) = (xs.drop (n + 4)).take 32)) (by rw [decide_eq_true_iff, hiff])
    have hres : FirstT g k xs (.returned (.tuple #[.string (strOfNums ((xs.drop 4).take n)), .bool (decide (fchk g k (xs.take (n + 4)) = (xs.drop (n + 4)).take 32))])) := by
      unfold FirstT
      rw [hnx]
      by_cases h : fchk g k (xs.take (n + 4)) = (xs.drop (n + 4)).take 32
      · rw [if_pos h]; rw [decide_eq_true h]
      · rw [if_neg h]; exact ⟨_, by rw [decide_eq_false h]⟩
    generalize decide (fchk g k (xs.take (n + 4)) = (xs.drop (n + 4)).take 32) = bb at *
    have HRS := Lib.hid hres; have HF := Lib.hid hF; have HU := Lib.hid hnum
    clear hres hnx hfb hiff htk hfr hrec hrb hrl hn hlow hF hnum
    obtain ⟨q1, q2⟩ := hbq
    generalize strOfNums (frameI g k ((xs.drop 4).take n)) = sf at *
    generalize strOfNums ((xs.drop 4).take n) = sr at *
    generalize strOfNums (xs.take (n + 36)) = sh at *
    generalize strOfNums (xs.take 4) = s4 at *
    generalize strOfNums xs = s at *
    have hd : decide ((32768 : Int) < (n : Int)) = false := decide_eq_false (by omega)
    have hd2 : decide ((xs.length : Int) < (n : Int) + 36) = false := decide_eq_false (by omega)
    have e0 : (0 : Int) ≤ (n : Int) + 36 := by omega
    have e1 : (n : Int) + 36 ≤ (xs.length : Int) := by omega
    go_enter Tryz.func88, Tryz.ntmps88
    go_upto_region 7 with (go_at_call 87; (with_reducible refine (HU.out _).mono ?_); rintro e w2 ⟨rfl, rfl⟩)
    go_region_held3 (fun _ => True) (trivial) (first | (go_at_call 93; (with_reducible refine (HF.out _).mono ?_); rintro e w3 ⟨rfl, b3⟩))
    go_wp2
    go_ret2
    refine ⟨?_, bel_call (Below.refl _ w2).drew b3⟩
    have hq3 : ((s.extract 0 ((n : Int) + 36).toNat).toList == sf.toList) = bb := by rw [show ((n : Int) + 36).toNat = n + 36 by omega, hes]; exact q1
    show FirstT g k xs (.returned (.tuple #[.string sr, .bool ((s.extract 0 ((n : Int) + 36).toNat).toList == sf.toList)]))
    rw [hq3]; exact HRS.out
end Go.Proofs.YtfohemgfiidokaaGreatDoor
namespace Go.Proofs.YtfohemgfiidokaaGreatDoor
open Go.RowKit Go.Sort

set_option maxRecDepth 100000 in
theorem rlong_c (v : Value) (ls : List (List Int)) (w : World) (hv : RdL w v ls) (hn : ls.length ≤ 1000000) :
    Calls Tryz.prog 64 #[v] w fun e w' => e = .returned (.bool (lngI ls)) ∧ w' = w := by
  obtain ⟨a, cap, rfl, hcap, hel⟩ := hv.shape
  have HE := Lib.hid hel
  clear hel hv
  go_enter Tryz.func64, Tryz.ntmps64
  go_upto_region 2 with fail
  go_loopw [3] (fun i wr => ∃ k : Nat, k ≤ ls.length ∧ i = .int .i64 k ∧ (∀ j, j < k → (ls[j]?.getD []).length ≤ 32768) ∧ wr = w) (fun i _ => ls.length - (intOf i).toNat)
  case atStart => exact ⟨0, by omega, rfl, fun j hj => by omega, rfl⟩
  case round =>
    obtain ⟨k, hk, rfl, hs, hwr⟩ := hrel
    obtain rfl := hwr.symm
    have HS := Lib.hid hs
    clear hs
    by_cases hlt : k < ls.length
    · obtain ⟨g, o, u, rfl, hcell, hrd⟩ := HE.out k hlt
      obtain ⟨a', c', rfl, hc'⟩ := hrd.shape
      by_cases hb : 32768 < (ls[k]?.getD []).length
      · have hd : decide ((32768 : Int) < ((ls[k]?.getD []).length : Int)) = true := decide_eq_true (by omega)
        have hr := lngI_at k hlt hb
        have HR := Lib.hid hr
        clear hb hr
        generalize ls[k]?.getD [] = r at *
        go_wp2
        go_ret
        exact ⟨by rw [HR.out]; rfl, rfl⟩
      · have hd : decide ((32768 : Int) < ((ls[k]?.getD []).length : Int)) = false := decide_eq_false (by omega)
        have HB := Lib.hid (show ∀ j, j < k + 1 → (ls[j]?.getD []).length ≤ 32768 from fun j hj => by
          by_cases e : j = k
          · subst e; omega
          · exact HS.out j (by omega))
        clear hb
        generalize ls[k]?.getD [] = r at *
        go_wp2
        exact ⟨⟨k + 1, by omega, by go_num, HB.out, trivial⟩, by simp [intOf]; omega⟩
    · obtain rfl : k = ls.length := by omega
      have hr : lngI ls = false := lngI_false.2 fun r hr => by
        obtain ⟨j, hj, rfl⟩ := List.mem_iff_getElem.1 hr
        have := HS.out j hj
        rwa [List.getElem?_eq_getElem hj] at this
      have HR := Lib.hid hr
      clear hr
      go_wp2
      go_ret
      exact ⟨by rw [HR.out]; rfl, rfl⟩
set_option maxRecDepth 100000 in
theorem rfront_c (g n : Int) (w : World) (hn : 0 ≤ n ∧ n ≤ 1000000000) :
    Calls Tryz.prog 66 #[.int .u64 g, .int .i64 n] w fun e w' => e = .returned (.string (strOfNums (headI g n))) ∧ Below w.heap.size w w' := by
  have h1 := fun W => rlow_c g 8 8 W (.inl ⟨rfl, rfl⟩)
  have h2 := fun W => rlow_c n 4 4 W (.inr ⟨rfl, rfl⟩)
  have hb1 := low_bytes g 8
  have hb2 := low_bytes n 4
  have hl1 := low_length g 8
  have hl2 := low_length n 4
  have h4 := fun W => rcheck_c (low g 8 ++ low n 4) W (hb1.append hb2) (by simp only [List.length_append]; omega)
  have hcl := chk_len (low g 8 ++ low n 4)
  have a1 := str_add (low g 8) (low n 4) (by omega)
  have a2 := str_add (low g 8 ++ low n 4) (chk (low g 8 ++ low n 4)) (by simp only [List.length_append]; omega)
  have hfr : headI g n = low g 8 ++ low n 4 ++ chk (low g 8 ++ low n 4) := rfl
  have hw : IntKind.u64.wrap n = n := by rw [IntKind.wrap_u64]; omega
  rw [hfr]
  have H1 := Lib.hid h1; have H2 := Lib.hid h2; have H4 := Lib.hid h4
  clear h1 h2 h4 hb1 hb2 hl1 hl2 hcl hfr
  generalize strOfNums (low g 8 ++ low n 4 ++ chk (low g 8 ++ low n 4)) = s5 at *
  generalize strOfNums (chk (low g 8 ++ low n 4)) = s4 at *
  generalize strOfNums (low g 8 ++ low n 4) = s3 at *
  generalize strOfNums (low g 8) = s1 at *
  generalize strOfNums (low n 4) = s2 at *
  go_enter Tryz.func66, Tryz.ntmps66
  go_wp2_with (first
    | (go_at_call 92; (with_reducible refine (H1.out _).mono ?_); rintro e w1 ⟨rfl, b1⟩)
    | (go_at_call 92; (with_reducible refine (H2.out _).mono ?_); rintro e w2 ⟨rfl, b2⟩; have b3 := Lib.hid (bel_call b1 b2); clear b1 b2)
    | (go_at_call 86; (with_reducible refine (H4.out _).mono ?_); rintro e w4 ⟨rfl, b6⟩; have b7 := Lib.hid (bel_call b3.out b6); clear b6)
    | fail)
  go_ret
  exact ⟨rfl, b7.out⟩
theorem framesI_next (g k : Int) (ls : List (List Int)) (q : Nat) (h : q < ls.length) : framesI g k (ls.take (q + 1)) = framesI g k (ls.take q) ++ frameI g (k + q) (ls[q]?.getD []) := by
  rw [show ls.take (q + 1) = ls.take q ++ [ls[q]?.getD []] by rw [List.take_succ_eq_append_getElem h, List.getElem?_eq_getElem h]; rfl, framesI_snoc, List.length_take, Nat.min_eq_left (by omega)]
theorem sizeI_take' (ls : List (List Int)) (q : Nat) : sizeI (ls.take q) ≤ sizeI ls := by
  have := sizeI_append (ls.take q) (ls.drop q)
  rw [List.take_append_drop] at this
  omega
set_option maxRecDepth 100000 in
set_option maxHeartbeats 1000000 in
theorem rframes_c (g k : Int) (v : Value) (ls : List (List Int)) (w : World) (hv : RdL w v ls) (hlb : ∀ r ∈ ls, Bytes r) (hk : 0 ≤ k ∧ k ≤ 1000000) (hn : ls.length ≤ 1000000) (hsz : sizeI ls ≤ 10000000) :
    Calls Tryz.prog 67 #[.int .u64 g, .int .i64 k, v] w fun e w' => e = .returned (.string (strOfNums (framesI g k ls))) ∧ Below w.heap.size w w' := by
  have hvk := fun W (hb : Below w.heap.size w W) => (hv.keep hb).shape
  obtain ⟨a, cap, rfl, hcap, -⟩ := hv.shape
  have HE := Lib.hid (fun W (hb : Below w.heap.size w W) => show ∀ j, j < ls.length → ∃ g o u, a = some ⟨g, o, none⟩ ∧ W.cell? ⟨g, o + j, none⟩ = some u ∧ RdB W u (ls[j]?.getD []) from by
    obtain ⟨a2, cap2, e, -, h⟩ := hvk W hb
    cases e
    exact h)
  have HLB := Lib.hid hlb
  clear hvk hv hlb
  go_enter Tryz.func67, Tryz.ntmps67
  go_upto_region 3 with fail
  go_loopw [7, 8] (fun s i wr => ∃ q : Nat, q ≤ ls.length ∧ i = .int .i64 q ∧ s = .string (strOfNums (framesI g k (ls.take q))) ∧ Below w.heap.size w wr) (fun _ i _ => ls.length - (intOf i).toNat)
  case atStart => exact ⟨0, by omega, rfl, rfl, Below.refl _ _⟩
  case round =>
    obtain ⟨q, hq, rfl, rfl, hb⟩ := hrel
    by_cases hlt : q < ls.length
    · obtain ⟨g2, o2, u, rfl, hcell, hrd⟩ := HE.out _ hb q hlt
      have ht := rd_text hrd
      have hrb : Bytes (ls[q]?.getD []) := by rw [List.getElem?_eq_getElem hlt]; exact HLB.out _ (List.getElem_mem _)
      have hnx := framesI_next g k ls q hlt
      have hst := sizeI_take' ls (q + 1)
      have hl1 := framesI_len g (ls.take (q + 1)) k
      have hl2 := congrArg List.length hnx
      rw [List.length_append, frameI_len, hl1] at hl2
      have hf := fun W => rframe_c g (k + q) (ls[q]?.getD []) W (by omega) hrb (by omega)
      have ha := str_add (framesI g k (ls.take q)) (frameI g (k + q) (ls[q]?.getD [])) (by rw [frameI_len]; omega)
      rw [← hnx] at ha
      have hwk : IntKind.i64.wrap (k + (q : Int)) = k + q := by rw [IntKind.wrap_i64]; omega
      have HF := Lib.hid hf
      have HB := Lib.hid hb
      have HST := Lib.hid (show ∃ s2 : ByteArray, s2 = strOfNums (framesI g k (ls.take (q + 1))) from ⟨_, rfl⟩)
      obtain ⟨a', c', rfl, hc'⟩ := hrd.shape
      obtain ⟨s2, hs2⟩ := HST.out
      rw [← hs2] at ha
      have HS2 := Lib.hid hs2
      clear hf hrd hnx hst hl1 hl2 hrb hb HST hs2
      generalize strOfNums (frameI g (k + q) (ls[q]?.getD [])) = sf at *
      generalize strOfNums (framesI g k (ls.take q)) = s1 at *
      generalize strOfNums (ls[q]?.getD []) = sr at *
      generalize ls[q]?.getD [] = r at *
      go_wp2_with (first
        | (go_at_call 93; (with_reducible refine (HF.out _).mono ?_); rintro e w2 ⟨rfl, b2⟩; have b3 := bel_call HB.out b2)
        | fail)
      exact ⟨⟨q + 1, by omega, by go_num, by rw [HS2.out], b3⟩, by simp [intOf]; omega⟩
    · obtain rfl : q = ls.length := by omega
      rw [List.take_length]
      have HB := Lib.hid hb
      clear hb
      generalize hs1 : strOfNums (framesI g k ls) = s1 at *
      have HS1 := Lib.hid hs1
      clear hs1
      go_wp2
      go_ret
      exact ⟨by rw [HS1.out]; rfl, HB.out⟩
end Go.Proofs.YtfohemgfiidokaaGreatDoor
