/- The walk of TargetWorks, from its calls' answers. -/
import Derived.Test.YtefnlmiephombaaTr
import Derived.Test.YtefnlmiephombaaHw
namespace Go.Proofs.Ytefnlmiephombaa
open Go.RowKit Go.Sort

theorem RowU.new2 (w : World) (bs : List Int) (b : Nat) (hb : b = w.heap.size) : RowU b bs (w.alloc (.cells (bs.map (Value.int .u8)).toArray 42)) := hb ▸ RowU.new w bs

set_option maxRecDepth 100000 in
set_option maxHeartbeats 4000000 in
theorem works_some (bs ds : List Int) (t S wk : Int) (ov mt nz : Bool) (a : Addr) (g o len cap : Nat) (N : Nat → Int) (hb : bs.length = 32) (hd : ds.length = 32) (w : World) (hlen : len ≤ 300) (ha : 0 < len → a = ⟨g, o, none⟩) (hg : BigsAt w g o len N)
    (k44 : ∀ B v w, w.ownsRow B 24 4 v len (words N len) → Calls Try.prog 44 #[v] w fun e w' => e = .returned (.tuple #[.agg #[.int .u64 (L0 S), .int .u64 (L1 S), .int .u64 (L2 S), .int .u64 (L3 S)], .bool ov]) ∧ Below w.heap.size w w')
    (k45 : ∀ w, BigsAt w g o len N → Calls Try.prog 45 #[.slice (some a) len cap] w fun e w' => e = .returned (.tuple #[.agg #[.int .u64 (L0 S), .int .u64 (L1 S), .int .u64 (L2 S), .int .u64 (L3 S)], .bool ov]) ∧ Below w.heap.size w w')
    (k36 : ∀ w, Calls Try.prog 36 #[.agg #[.int .u64 (L0 t), .int .u64 (L1 t), .int .u64 (L2 t), .int .u64 (L3 t)]] w fun e w' => e = .returned (.agg (ds.map (Value.int .u8)).toArray) ∧ Below w.heap.size w w')
    (k42 : ∀ w, Calls Try.prog 42 #[.agg #[.int .u64 (L0 t), .int .u64 (L1 t), .int .u64 (L2 t), .int .u64 (L3 t)]] w fun e w' => e = .returned (.agg #[.int .u64 (L0 wk), .int .u64 (L1 wk), .int .u64 (L2 wk), .int .u64 (L3 wk)]) ∧ Below w.heap.size w w')
    (k46 : ∀ w, Calls Try.prog 46 #[.agg #[.int .u64 (L0 t), .int .u64 (L1 t), .int .u64 (L2 t), .int .u64 (L3 t)]] w fun e w' => e = .returned (.agg #[.int .u64 (L0 wk), .int .u64 (L1 wk), .int .u64 (L2 wk), .int .u64 (L3 wk)]) ∧ Below w.heap.size w w')
    (k43 : ∀ w, Calls Try.prog 43 #[.agg (bs.map (Value.int .u8)).toArray, .agg #[.int .u64 (L0 t), .int .u64 (L1 t), .int .u64 (L2 t), .int .u64 (L3 t)]] w fun e w' => e = .returned (.bool mt) ∧ Below w.heap.size w w')
    (k47 : ∀ w, Calls Try.prog 47 #[.agg (bs.map (Value.int .u8)).toArray, .agg #[.int .u64 (L0 t), .int .u64 (L1 t), .int .u64 (L2 t), .int .u64 (L3 t)]] w fun e w' => e = .returned (.bool mt) ∧ Below w.heap.size w w')
    (k4n : ∀ w, Calls Try.prog 43 #[.agg (ds.map (Value.int .u8)).toArray, .agg #[.int .u64 (L0 t), .int .u64 (L1 t), .int .u64 (L2 t), .int .u64 (L3 t)]] w fun e w' => e = .returned (.bool nz) ∧ Below w.heap.size w w')
    (k41 : ∀ w, Calls Try.prog 41 #[] w fun e w' => e = .returned (.bool true) ∧ Below w.heap.size w w')
    (n1 : ∀ w, (binOp .eql 24 (.agg #[.int .u64 (L0 S), .int .u64 (L1 S), .int .u64 (L2 S), .int .u64 (L3 S)]) (.agg #[.int .u64 (L0 S), .int .u64 (L1 S), .int .u64 (L2 S), .int .u64 (L3 S)])).run Try.prog w = .ok (.bool true) w)
    (n2 : ∀ w, (binOp .eql 24 (.agg #[.int .u64 (L0 wk), .int .u64 (L1 wk), .int .u64 (L2 wk), .int .u64 (L3 wk)]) (.agg #[.int .u64 (L0 wk), .int .u64 (L1 wk), .int .u64 (L2 wk), .int .u64 (L3 wk)])).run Try.prog w = .ok (.bool true) w)
    (n3 : ∀ w, (binOp .neq 24 (.agg #[.int .u64 (L0 t), .int .u64 (L1 t), .int .u64 (L2 t), .int .u64 (L3 t)]) (.agg #[.int .u64 0, .int .u64 0, .int .u64 0, .int .u64 0])).run Try.prog w = .ok (.bool nz) w)
    : Calls Try.prog 13 #[big t, hsh bs, .slice (some a) len cap] w fun e w' => e = .returned (.bool true) ∧ Below w.heap.size w w' := by
  obtain ⟨i0, hi, hz0, hz1, hz2⟩ := info_parts Try.info24
  have hl0 : ¬ (300 < (len : Int)) := by omega
  have hib := info42 (bs.map (Value.int .u8)).toArray.size (by simp [hb])
  have hid := info42 (ds.map (Value.int .u8)).toArray.size (by simp [hd])
  have HD := Lib.hid hd; have HIB := Lib.hid hib; have HID := Lib.hid hid
  clear hb hd hib hid
  unfold big hsh
  go_enter Try.func13, Try.ntmps13
  go_upto_region 1 with (fail)
  refine wp_gen (fun V => Cells4 V w.heap.size t ∧ RowU (w.heap.size + 1) bs V ∧ BigsAt V g o len N ∧ Below w.heap.size w V) ⟨(cells4_new w t).alloc _, RowU.new2 (w.alloc _) bs _ (by simp), (hg.alloc _).alloc _, bel_alloc (bel_alloc (Below.refl _ _) _) _⟩ ?_
  clear hg
  rintro W ⟨c0, c1, c2, hB⟩
  have hown0 : (W.alloc (.cells #[] 24)).ownsRow W.heap.size 24 4 (.slice (some ⟨W.heap.size, 0, none⟩) 0 0) 0 [] := ⟨rfl, .inr ⟨_, 0, #[], rfl, Nat.le_refl _, heap_alloc_new _ _, Nat.le_refl _, by unfold maxLen; omega, rfl, rfl⟩⟩
  go_wp2_with (at_builtin; refine wpList_append_own _ rfl _ _ 54 rfl W.heap.size 24 i0 (.agg #[.int .u64 0, .int .u64 0, .int .u64 0, .int .u64 0]) 4 32 Try.underlying54 hi hz0 hz1 hz2 rfl (by decide) _ _ _ rfl hown0 a len cap (words N len) rfl (words_length N len) (words_cell (c2.alloc _) a ha) (words_one N len) ?c3 ?c4 ?c5 ?_)
  case c3 => unfold maxLen; omega
  case c4 => omega
  intro v' w1 hown' hgrow _
  have hb0 := row24_below hown0 (bel_alloc (Below.refl _ _) _) hgrow
  clear hgrow hown0
  go_upto_region 4 with (go_at_call 44; with_reducible refine (k44 _ _ _ hown').mono ?_; rintro e w2 ⟨rfl, hb2⟩)
  refine wp_gen (fun V => Cells4 V w.heap.size t ∧ RowU (w.heap.size + 1) bs V ∧ BigsAt V g o len N ∧ Cells4 V w2.heap.size S ∧ Below w.heap.size w V) ⟨((c0.call hb0).call hb2).alloc _, ((c1.call hb0).call hb2).alloc _, ((c2.call hb0).call hb2).alloc _, cells4_new _ _, bel_alloc (bel_call (bel_call hB hb0) hb2) _⟩ ?_
  clear hb0 hb2 hown' c0 c1 c2 hB
  generalize w2.heap.size = b1
  generalize W.heap.size = b0
  clear w2 w1 W
  rintro W ⟨c0, c1, c2, c3, hB⟩
  go_upto_region 5 with (go_at_call 45; with_reducible refine (k45 _ c2).mono ?_; rintro e w1 ⟨rfl, hb1⟩)
  refine wp_gen (fun V => Cells4 V w.heap.size t ∧ RowU (w.heap.size + 1) bs V ∧ Cells4 V b1 S ∧ Cells4 V w1.heap.size S ∧ w.heap.size + 1 < V.heap.size ∧ Below w.heap.size w V) ⟨(c0.call hb1).alloc _, (c1.call hb1).alloc _, (c3.call hb1).alloc _, cells4_new _ _, ((c1.call hb1).alloc _).lt, bel_alloc (bel_call hB hb1) _⟩ ?_
  clear hb1 c0 c1 c2 c3 hB
  generalize w1.heap.size = b2
  clear w1 W
  rintro W ⟨c0, c1, c2, c3, hsz, hB⟩
  obtain ⟨a0, a1, a2, a3, -, -, -, -⟩ := id c0
  go_upto_region 6 with (first | (go_at_call 36; with_reducible refine (k36 _).mono ?_; rintro e w1 ⟨rfl, hb1⟩) | (refine wpList_store_row rfl 42 _ _ rfl _ rfl _ rfl 42 _ (heap_alloc_new _ _) HID.out ?hs (oneCell_map _) ?_; (case hs => simp [HD.out])))
  have hs1 := hb1.size
  have l0 := c0.lt; have l1 := c1.lt; have l2 := c2.lt; have l3 := c3.lt
  refine wp_gen (fun V => Cells4 V w.heap.size t ∧ RowU (w.heap.size + 1) bs V ∧ Cells4 V b1 S ∧ Cells4 V b2 S ∧ RowU w1.heap.size ds V ∧ Below w.heap.size w V) ⟨((c0.call hb1).alloc _).setRow_other (by omega) _, ((c1.call hb1).alloc _).setRow_other (by omega) _, ((c2.call hb1).alloc _).setRow_other (by omega) _, ((c3.call hb1).alloc _).setRow_other (by omega) _, setRow_heap _ _ _ _ 42 _ (heap_alloc_new _ _), below_setRow (bel_alloc (bel_call hB hb1) _) (by omega) _⟩ ?_
  clear hb1 hs1 l0 l1 l2 l3 c0 c1 c2 c3 hsz hB a0 a1 a2 a3
  generalize w1.heap.size = b3
  clear w1 W
  rintro W ⟨c0, c1, c2, c3, c4, hB⟩
  have k00 := fun d os => (c0.regrown d os).c0
  have k01 := fun d os => (c0.regrown d os).c1
  have k02 := fun d os => (c0.regrown d os).c2
  have k03 := fun d os => (c0.regrown d os).c3
  have k20 := fun d os => (c2.regrown d os).c0
  have k21 := fun d os => (c2.regrown d os).c1
  have k22 := fun d os => (c2.regrown d os).c2
  have k23 := fun d os => (c2.regrown d os).c3
  have k30 := fun d os => (c3.regrown d os).c0
  have k31 := fun d os => (c3.regrown d os).c1
  have k32 := fun d os => (c3.regrown d os).c2
  have k33 := fun d os => (c3.regrown d os).c3
  have CH := Lib.hid c1.regrown
  have CD := Lib.hid c4.regrown
  clear c1 c4
  have q0 := quiet_call W k42
  have q1 := quiet_call W k46
  have q2 := quiet_call W k43
  have q3 := quiet_call W k47
  have q4 := quiet_call W k4n
  have q5 := quiet_call W k41
  refine wp_region_quiet_below (by kernel_rfl) (by kernel_rfl) ?_
  simp only [Act.put]
  repeat (first | (go_big_quiet_want; (first | refine quiet_load_row 42 _ rfl (w.heap.size + 1) rfl 42 _ _ _ CH.out Try.underlying42 rfl HIB.out ?_ | refine quiet_load_row 42 _ rfl b3 rfl 42 _ _ _ CD.out Try.underlying42 rfl HID.out ?_); simp only [Act.put, List.setIfInBounds_toArray, List.set_cons_zero, List.set_cons_succ]; go_big_quiet_on) | go_big_quiet_step ((first | with_reducible exact q0 _ _ | with_reducible exact q1 _ _ | with_reducible exact q2 _ _ | with_reducible exact q3 _ _ | with_reducible exact q4 _ _ | with_reducible exact q5 _ _)))
  refine wpQuiet_nil ?_
  intro W1 hw'
  have hB1 : Below w.heap.size w W1 := by obtain ⟨p, rfl⟩ := hw'; exact hB.trans ((below_regrown W _ _).mono hB.size)
  clear hw'
  go_wp2
  go_ret
  exact ⟨rfl, hB1⟩

set_option maxRecDepth 100000 in
set_option maxHeartbeats 4000000 in
theorem works_nil (bs ds : List Int) (t S wk : Int) (ov mt nz : Bool) (hb : bs.length = 32) (hd : ds.length = 32) (w : World) 
    (k44 : ∀ B v w, w.ownsRow B 24 4 v 0 [] → Calls Try.prog 44 #[v] w fun e w' => e = .returned (.tuple #[.agg #[.int .u64 (L0 S), .int .u64 (L1 S), .int .u64 (L2 S), .int .u64 (L3 S)], .bool ov]) ∧ Below w.heap.size w w')
    (k45 : ∀ w, True → Calls Try.prog 45 #[.slice none 0 0] w fun e w' => e = .returned (.tuple #[.agg #[.int .u64 (L0 S), .int .u64 (L1 S), .int .u64 (L2 S), .int .u64 (L3 S)], .bool ov]) ∧ Below w.heap.size w w')
    (k36 : ∀ w, Calls Try.prog 36 #[.agg #[.int .u64 (L0 t), .int .u64 (L1 t), .int .u64 (L2 t), .int .u64 (L3 t)]] w fun e w' => e = .returned (.agg (ds.map (Value.int .u8)).toArray) ∧ Below w.heap.size w w')
    (k42 : ∀ w, Calls Try.prog 42 #[.agg #[.int .u64 (L0 t), .int .u64 (L1 t), .int .u64 (L2 t), .int .u64 (L3 t)]] w fun e w' => e = .returned (.agg #[.int .u64 (L0 wk), .int .u64 (L1 wk), .int .u64 (L2 wk), .int .u64 (L3 wk)]) ∧ Below w.heap.size w w')
    (k46 : ∀ w, Calls Try.prog 46 #[.agg #[.int .u64 (L0 t), .int .u64 (L1 t), .int .u64 (L2 t), .int .u64 (L3 t)]] w fun e w' => e = .returned (.agg #[.int .u64 (L0 wk), .int .u64 (L1 wk), .int .u64 (L2 wk), .int .u64 (L3 wk)]) ∧ Below w.heap.size w w')
    (k43 : ∀ w, Calls Try.prog 43 #[.agg (bs.map (Value.int .u8)).toArray, .agg #[.int .u64 (L0 t), .int .u64 (L1 t), .int .u64 (L2 t), .int .u64 (L3 t)]] w fun e w' => e = .returned (.bool mt) ∧ Below w.heap.size w w')
    (k47 : ∀ w, Calls Try.prog 47 #[.agg (bs.map (Value.int .u8)).toArray, .agg #[.int .u64 (L0 t), .int .u64 (L1 t), .int .u64 (L2 t), .int .u64 (L3 t)]] w fun e w' => e = .returned (.bool mt) ∧ Below w.heap.size w w')
    (k4n : ∀ w, Calls Try.prog 43 #[.agg (ds.map (Value.int .u8)).toArray, .agg #[.int .u64 (L0 t), .int .u64 (L1 t), .int .u64 (L2 t), .int .u64 (L3 t)]] w fun e w' => e = .returned (.bool nz) ∧ Below w.heap.size w w')
    (k41 : ∀ w, Calls Try.prog 41 #[] w fun e w' => e = .returned (.bool true) ∧ Below w.heap.size w w')
    (n1 : ∀ w, (binOp .eql 24 (.agg #[.int .u64 (L0 S), .int .u64 (L1 S), .int .u64 (L2 S), .int .u64 (L3 S)]) (.agg #[.int .u64 (L0 S), .int .u64 (L1 S), .int .u64 (L2 S), .int .u64 (L3 S)])).run Try.prog w = .ok (.bool true) w)
    (n2 : ∀ w, (binOp .eql 24 (.agg #[.int .u64 (L0 wk), .int .u64 (L1 wk), .int .u64 (L2 wk), .int .u64 (L3 wk)]) (.agg #[.int .u64 (L0 wk), .int .u64 (L1 wk), .int .u64 (L2 wk), .int .u64 (L3 wk)])).run Try.prog w = .ok (.bool true) w)
    (n3 : ∀ w, (binOp .neq 24 (.agg #[.int .u64 (L0 t), .int .u64 (L1 t), .int .u64 (L2 t), .int .u64 (L3 t)]) (.agg #[.int .u64 0, .int .u64 0, .int .u64 0, .int .u64 0])).run Try.prog w = .ok (.bool nz) w)
    : Calls Try.prog 13 #[big t, hsh bs, .slice none 0 0] w fun e w' => e = .returned (.bool true) ∧ Below w.heap.size w w' := by
  have hib := info42 (bs.map (Value.int .u8)).toArray.size (by simp [hb])
  have hid := info42 (ds.map (Value.int .u8)).toArray.size (by simp [hd])
  have HD := Lib.hid hd; have HIB := Lib.hid hib; have HID := Lib.hid hid
  clear hb hd hib hid
  unfold big hsh
  go_enter Try.func13, Try.ntmps13
  go_upto_region 1 with (fail)
  refine wp_gen (fun V => Cells4 V w.heap.size t ∧ RowU (w.heap.size + 1) bs V ∧ True ∧ Below w.heap.size w V) ⟨(cells4_new w t).alloc _, RowU.new2 (w.alloc _) bs _ (by simp), trivial, bel_alloc (bel_alloc (Below.refl _ _) _) _⟩ ?_
  rintro W ⟨c0, c1, c2, hB⟩
  have hown0 : (W.alloc (.cells #[] 24)).ownsRow W.heap.size 24 4 (.slice (some ⟨W.heap.size, 0, none⟩) 0 0) 0 [] := ⟨rfl, .inr ⟨_, 0, #[], rfl, Nat.le_refl _, heap_alloc_new _ _, Nat.le_refl _, by unfold maxLen; omega, rfl, rfl⟩⟩
  go_upto_region 4 with (go_at_call 44; with_reducible refine (k44 _ _ _ hown0).mono ?_; rintro e w2 ⟨rfl, hb2⟩)
  refine wp_gen (fun V => Cells4 V w.heap.size t ∧ RowU (w.heap.size + 1) bs V ∧ True ∧ Cells4 V w2.heap.size S ∧ Below w.heap.size w V) ⟨((c0.alloc _).call hb2).alloc _, ((c1.alloc _).call hb2).alloc _, trivial, cells4_new _ _, bel_alloc (bel_call (bel_alloc hB _) hb2) _⟩ ?_
  clear hb2 hown0 c0 c1 c2 hB
  generalize w2.heap.size = b1
  generalize W.heap.size = b0
  clear w2 W
  rintro W ⟨c0, c1, c2, c3, hB⟩
  go_upto_region 5 with (go_at_call 45; with_reducible refine (k45 _ c2).mono ?_; rintro e w1 ⟨rfl, hb1⟩)
  refine wp_gen (fun V => Cells4 V w.heap.size t ∧ RowU (w.heap.size + 1) bs V ∧ Cells4 V b1 S ∧ Cells4 V w1.heap.size S ∧ w.heap.size + 1 < V.heap.size ∧ Below w.heap.size w V) ⟨(c0.call hb1).alloc _, (c1.call hb1).alloc _, (c3.call hb1).alloc _, cells4_new _ _, ((c1.call hb1).alloc _).lt, bel_alloc (bel_call hB hb1) _⟩ ?_
  clear hb1 c0 c1 c2 c3 hB
  generalize w1.heap.size = b2
  clear w1 W
  rintro W ⟨c0, c1, c2, c3, hsz, hB⟩
  obtain ⟨a0, a1, a2, a3, -, -, -, -⟩ := id c0
  go_upto_region 6 with (first | (go_at_call 36; with_reducible refine (k36 _).mono ?_; rintro e w1 ⟨rfl, hb1⟩) | (refine wpList_store_row rfl 42 _ _ rfl _ rfl _ rfl 42 _ (heap_alloc_new _ _) HID.out ?hs (oneCell_map _) ?_; (case hs => simp [HD.out])))
  have hs1 := hb1.size
  have l0 := c0.lt; have l1 := c1.lt; have l2 := c2.lt; have l3 := c3.lt
  refine wp_gen (fun V => Cells4 V w.heap.size t ∧ RowU (w.heap.size + 1) bs V ∧ Cells4 V b1 S ∧ Cells4 V b2 S ∧ RowU w1.heap.size ds V ∧ Below w.heap.size w V) ⟨((c0.call hb1).alloc _).setRow_other (by omega) _, ((c1.call hb1).alloc _).setRow_other (by omega) _, ((c2.call hb1).alloc _).setRow_other (by omega) _, ((c3.call hb1).alloc _).setRow_other (by omega) _, setRow_heap _ _ _ _ 42 _ (heap_alloc_new _ _), below_setRow (bel_alloc (bel_call hB hb1) _) (by omega) _⟩ ?_
  clear hb1 hs1 l0 l1 l2 l3 c0 c1 c2 c3 hsz hB a0 a1 a2 a3
  generalize w1.heap.size = b3
  clear w1 W
  rintro W ⟨c0, c1, c2, c3, c4, hB⟩
  have k00 := fun d os => (c0.regrown d os).c0
  have k01 := fun d os => (c0.regrown d os).c1
  have k02 := fun d os => (c0.regrown d os).c2
  have k03 := fun d os => (c0.regrown d os).c3
  have k20 := fun d os => (c2.regrown d os).c0
  have k21 := fun d os => (c2.regrown d os).c1
  have k22 := fun d os => (c2.regrown d os).c2
  have k23 := fun d os => (c2.regrown d os).c3
  have k30 := fun d os => (c3.regrown d os).c0
  have k31 := fun d os => (c3.regrown d os).c1
  have k32 := fun d os => (c3.regrown d os).c2
  have k33 := fun d os => (c3.regrown d os).c3
  have CH := Lib.hid c1.regrown
  have CD := Lib.hid c4.regrown
  clear c1 c4
  have q0 := quiet_call W k42
  have q1 := quiet_call W k46
  have q2 := quiet_call W k43
  have q3 := quiet_call W k47
  have q4 := quiet_call W k4n
  have q5 := quiet_call W k41
  refine wp_region_quiet_below (by kernel_rfl) (by kernel_rfl) ?_
  simp only [Act.put]
  repeat (first | (go_big_quiet_want; (first | refine quiet_load_row 42 _ rfl (w.heap.size + 1) rfl 42 _ _ _ CH.out Try.underlying42 rfl HIB.out ?_ | refine quiet_load_row 42 _ rfl b3 rfl 42 _ _ _ CD.out Try.underlying42 rfl HID.out ?_); simp only [Act.put, List.setIfInBounds_toArray, List.set_cons_zero, List.set_cons_succ]; go_big_quiet_on) | go_big_quiet_step ((first | with_reducible exact q0 _ _ | with_reducible exact q1 _ _ | with_reducible exact q2 _ _ | with_reducible exact q3 _ _ | with_reducible exact q4 _ _ | with_reducible exact q5 _ _)))
  refine wpQuiet_nil ?_
  intro W1 hw'
  have hB1 : Below w.heap.size w W1 := by obtain ⟨p, rfl⟩ := hw'; exact hB.trans ((below_regrown W _ _).mono hB.size)
  clear hw'
  go_wp2
  go_ret
  exact ⟨rfl, hB1⟩
end Go.Proofs.Ytefnlmiephombaa
