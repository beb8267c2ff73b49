/- The anchor. -/
import Derived.Test.YtoeooabaofpngaaDoorVh
namespace Go.Proofs.YtoeooabaofpngaaDoor
open Go.RowKit Go.Sort
attribute [local go_sem ↓] Go.wp_at_zero Go.wp_at_succ

def h0H : List Int := 1 :: List.replicate 31 0
def z0H : List Int := List.replicate 32 0
def x12 : En := ⟨12, h0H⟩
theorem h0_bytes : Bytes h0H := by
  intro b hb
  rcases List.mem_cons.1 hb with rfl | hb
  · omega
  · have := List.eq_of_mem_replicate hb; omega
theorem z0_bytes : Bytes z0H := by
  intro b hb
  have := List.eq_of_mem_replicate hb; omega
theorem x12_ok : x12.Ok := ⟨by decide, by decide, rfl, h0_bytes⟩
theorem h0_ok (n : Int) (h0 : 0 ≤ n) (h1 : n ≤ 100) : En.Ok ⟨n, h0H⟩ := ⟨by simp; omega, by simp; omega, rfl, h0_bytes⟩
theorem z0_ok (n : Int) (h0 : 0 ≤ n) (h1 : n ≤ 100) : En.Ok ⟨n, z0H⟩ := ⟨by simp; omega, by simp; omega, rfl, z0_bytes⟩
theorem itoI_12 : itoI 12 = [49, 50] := by
  rw [itoI_pos 12 (by decide), show (12 : Int).toNat = 12 from rfl, decI_big 12 (by decide), show 12 / 10 = 1 from rfl, decI_small 1 (by decide)]; rfl
theorem tx_12 : txF [x12] = hexI h0H.reverse ++ [58, 49, 50, 58] := by
  show enT x12 ++ [] = _
  rw [List.append_nil]
  show hexI h0H.reverse ++ ([58] ++ (itoI 12 ++ [58])) = _
  rw [itoI_12]; rfl
theorem rgt_w1 : rgtB [⟨1, h0H⟩, ⟨1, z0H⟩] = true := by
  rw [rgtB_iff]
  exact ⟨by decide, by decide⟩
theorem rgt_w2 : rgtB [⟨2, h0H⟩, ⟨1, z0H⟩] = false := by
  refine rgtB_no _ fun h => ?_
  have := h.2
  simp at this
theorem rdE_new (W : World) (l : List En) (ok : EnsOk l) : RdE (W.alloc (.cells (l.flatMap enV).toArray 29)) (.slice (some ⟨W.heap.size, 0, none⟩) l.length l.length) l := by
  refine .inr ⟨_, W.heap.size, 0, l.length, rfl, Nat.le_refl _, fun _ => ⟨rfl, by simp⟩, fun j x hj u v hv => ?_⟩
  have hr : RowV 29 W.heap.size (l.flatMap enV) (W.alloc (.cells (l.flatMap enV).toArray 29)) := RowV.new _ _ _
  rw [hr.cell]
  clear hr
  induction l generalizing j with
  | nil => simp at hj
  | cons y l ih =>
    have hy : (enV y).length = 33 := enV_len y (ok y (by simp))
    have hu : u < 33 := by
      have hx := enV_len x (ok x (List.mem_of_getElem? hj))
      rw [← hx]
      rcases Nat.lt_or_ge u (enV x).length with h | h
      · exact h
      · rw [List.getElem?_eq_none h] at hv; cases hv
    rw [List.flatMap_cons]
    cases j with
    | zero =>
      simp at hj
      subst hj
      rw [List.getElem?_append_left (by omega)]
      rw [show 0 + 0 * 33 + u = u by omega]; exact hv
    | succ j =>
      rw [List.getElem?_append_right (by omega), hy, show 0 + (j + 1) * 33 + u - 33 = 0 + j * 33 + u by omega]
      exact ih (fun z hz => ok z (by simp [hz])) j (by simpa using hj)
theorem build_h0 (w : World) : (Instr.build 27 #[(0, .int .u8 1)]).run Tryd.prog w = .ok (.agg (h0H.map (Value.int .u8)).toArray) w := by kernel_rfl
theorem build_e12 (w : World) : (Instr.build 29 #[(0, .int .i64 12), (1, .agg (h0H.map (Value.int .u8)).toArray)]).run Tryd.prog w = .ok (.agg (enV ⟨12, h0H⟩).toArray) w := by kernel_rfl
theorem build_e1 (w : World) : (Instr.build 29 #[(0, .int .i64 1), (1, .agg (h0H.map (Value.int .u8)).toArray)]).run Tryd.prog w = .ok (.agg (enV ⟨1, h0H⟩).toArray) w := by kernel_rfl
theorem build_e2 (w : World) : (Instr.build 29 #[(0, .int .i64 2), (1, .agg (h0H.map (Value.int .u8)).toArray)]).run Tryd.prog w = .ok (.agg (enV ⟨2, h0H⟩).toArray) w := by kernel_rfl
theorem build_ez (w : World) : (Instr.build 29 #[(0, .int .i64 1)]).run Tryd.prog w = .ok (.agg (enV ⟨1, z0H⟩).toArray) w := by kernel_rfl
theorem slice_1 (w : World) : (Instr.buildSlice 22 1 #[(0, .agg (enV ⟨12, h0H⟩).toArray)]).run Tryd.prog w = .ok (.slice (some ⟨w.heap.size, 0, none⟩) 1 1) (w.alloc (.cells (([⟨12, h0H⟩] : List En).flatMap enV).toArray 29)) := by kernel_rfl
theorem slice_2 (w : World) : (Instr.buildSlice 22 2 #[(0, .agg (enV ⟨1, h0H⟩).toArray), (1, .agg (enV ⟨1, z0H⟩).toArray)]).run Tryd.prog w = .ok (.slice (some ⟨w.heap.size, 0, none⟩) 2 2) (w.alloc (.cells (([⟨1, h0H⟩, ⟨1, z0H⟩] : List En).flatMap enV).toArray 29)) := by kernel_rfl
theorem slice_3 (w : World) : (Instr.buildSlice 22 2 #[(0, .agg (enV ⟨2, h0H⟩).toArray), (1, .agg (enV ⟨1, z0H⟩).toArray)]).run Tryd.prog w = .ok (.slice (some ⟨w.heap.size, 0, none⟩) 2 2) (w.alloc (.cells (([⟨2, h0H⟩, ⟨1, z0H⟩] : List En).flatMap enV).toArray 29)) := by kernel_rfl
theorem oks1 : EnsOk [⟨1, h0H⟩, ⟨1, z0H⟩] := by
  intro x hx
  simp only [List.mem_cons, List.not_mem_nil, or_false] at hx
  rcases hx with rfl | rfl
  · exact h0_ok 1 (by decide) (by decide)
  · exact z0_ok 1 (by decide) (by decide)
theorem oks2 : EnsOk [⟨2, h0H⟩, ⟨1, z0H⟩] := by
  intro x hx
  simp only [List.mem_cons, List.not_mem_nil, or_false] at hx
  rcases hx with rfl | rfl
  · exact h0_ok 2 (by decide) (by decide)
  · exact z0_ok 1 (by decide) (by decide)
theorem oks12 : EnsOk [⟨12, h0H⟩] := by
  intro x hx
  simp only [List.mem_cons, List.not_mem_nil, or_false] at hx
  subst hx
  exact x12_ok
/-- parts built, by what the building gives -/
theorem run_exec_build {P : Program} {a : Act} {o : Oper} {w : World} (ty : TypeId) (parts : Array (Nat × Operand)) (ho : o.op = .build ty parts) {pv : Array (Nat × Value)} {v : Value} (hr : (Instr.build ty pv).run P w = .ok v w) (hp : parts.map (fun p => (p.1, a.eval p.2)) = pv) : (execOp a.eval o).run P w = .ok (.value v) w := by
  subst hp
  unfold execOp
  simp only [ho, Sem.run_bind, hr, Result.andThen_ok, Sem.run_pure]
theorem wp_exec_slice {P : Program} {a : Act} {o : Oper} {w : World} {K : Act → World → Prop} {Q : Exit → Act → World → Prop} (ty : TypeId) (len : Nat) (parts : Array (Nat × Operand)) (ho : o.op = .buildSlice ty len parts) {pv : Array (Nat × Value)} {v : Value} {w' : World} (hr : (Instr.buildSlice ty len pv).run P w = .ok v w') (hp : parts.map (fun p => (p.1, a.eval p.2)) = pv)
    (h : K (a.put o.dst v) w') : o.wp P a w K Q := by
  subst hp
  unfold Oper.wp execOp
  simp only [ho, Sem.run_bind, hr, Result.andThen_ok, Sem.run_pure]
  exact h
theorem wpList_buildh {ops : Array Oper} {rest : List Oper} {o : Oper} {a : Act} {w : World} {Q : Exit → Act → World → Prop} (hgd : o.guard = none) (ho : o.op = .build 27 #[(0, .const (.int .u8 1))])
    (cs : Array Value) (hcs : ∀ w, (Instr.build 27 #[(0, .int .u8 1)]).run Tryd.prog w = .ok (.agg cs) w) (h : wpList Tryd.prog ops Q rest (a.put o.dst (.agg cs)) w) : wpList Tryd.prog ops Q (o :: rest) a w := by
  refine wpList_plain hgd fun K hK => ?_
  unfold Oper.wp execOp
  simp only [ho, List.map_toArray, List.map_cons, List.map_nil, Act.eval, Sem.run_bind, Sem.run_pure, hcs, Result.andThen_ok]
  exact hK _ _ h
/-- the anchor's pieces, under names -/
theorem wk_pieces : ∃ (cH : List Value) (e12 e1 e2 ez r12 r1 r2 : Array Value), cH.length = 32 ∧ (∀ v ∈ cH.toArray.toList, v.oneCell' = true) ∧
    (∀ w, (Instr.build 27 #[(0, .int .u8 1)]).run Tryd.prog w = .ok (.agg cH.toArray) w) ∧
    (∀ w, (Instr.build 29 #[(0, .int .i64 12), (1, .agg cH.toArray)]).run Tryd.prog w = .ok (.agg e12) w) ∧
    (∀ w, (Instr.build 29 #[(0, .int .i64 1), (1, .agg cH.toArray)]).run Tryd.prog w = .ok (.agg e1) w) ∧
    (∀ w, (Instr.build 29 #[(0, .int .i64 2), (1, .agg cH.toArray)]).run Tryd.prog w = .ok (.agg e2) w) ∧
    (∀ w, (Instr.build 29 #[(0, .int .i64 1)]).run Tryd.prog w = .ok (.agg ez) w) ∧
    (∀ w, (Instr.buildSlice 22 1 #[(0, .agg e12)]).run Tryd.prog w = .ok (.slice (some ⟨w.heap.size, 0, none⟩) 1 1) (w.alloc (.cells r12 29))) ∧
    (∀ w, (Instr.buildSlice 22 2 #[(0, .agg e1), (1, .agg ez)]).run Tryd.prog w = .ok (.slice (some ⟨w.heap.size, 0, none⟩) 2 2) (w.alloc (.cells r1 29))) ∧
    (∀ w, (Instr.buildSlice 22 2 #[(0, .agg e2), (1, .agg ez)]).run Tryd.prog w = .ok (.slice (some ⟨w.heap.size, 0, none⟩) 2 2) (w.alloc (.cells r2 29))) ∧
    (∀ w : World, RdE (w.alloc (.cells r12 29)) (.slice (some ⟨w.heap.size, 0, none⟩) 1 1) [⟨12, h0H⟩]) ∧
    (∀ w : World, RdE (w.alloc (.cells r1 29)) (.slice (some ⟨w.heap.size, 0, none⟩) 2 2) [⟨1, h0H⟩, ⟨1, z0H⟩]) ∧
    (∀ w : World, RdE (w.alloc (.cells r2 29)) (.slice (some ⟨w.heap.size, 0, none⟩) 2 2) [⟨2, h0H⟩, ⟨1, z0H⟩]) ∧
    ∃ ht : List Int, strOfNums (txF [⟨12, h0H⟩]) = strOfNums (ht ++ [58, 49, 50, 58]) ∧ ht.length = 64 ∧ ∀ W, Calls Tryd.prog 13 #[.agg cH.toArray] W fun e w' => e = .returned (.string (strOfNums ht)) ∧ Below W.heap.size W w' :=
  ⟨h0H.map (Value.int .u8), _, _, _, _, _, _, _, rfl, oneCell_map .u8 h0H, build_h0, build_e12, build_e1, build_e2, build_ez, slice_1, slice_2, slice_3, fun w => rdE_new w _ oks12, fun w => rdE_new w _ oks1, fun w => rdE_new w _ oks2, _, by rw [← tx_12]; rfl, by simp [hexI_len]; rfl, fun W => rturned_c h0H W rfl h0_bytes⟩
set_option maxRecDepth 100000 in
set_option maxHeartbeats 4000000 in
theorem works_c (w : World) (hk : KTab w) (hp : PTab w) : Calls Tryd.prog 6 #[] w fun e w' => e = .returned (.bool true) ∧ Below w.heap.size w w' := by
  obtain ⟨cH, e12, e1, e2, ez, r12, r1, r2, hcl, hc1, bh, b12, b1, b2, bz, s1, s2, s3, d1, d2, d3, ht, htx, htl, kt⟩ := wk_pieces
  have kof : ∀ v W, RdE W v [⟨12, h0H⟩] → Below w.heap.size w W → Calls Tryd.prog 7 #[v] W fun e w' => e = .returned (.string (strOfNums (ofF [⟨12, h0H⟩]))) ∧ Below W.heap.size W w' := fun v W h hb => of_c v _ W h oks12 (by simp) (hk.call hb) (hp.call hb)
  have knil : ∀ W, Below w.heap.size w W → Calls Tryd.prog 7 #[.slice none 0 0] W fun e w' => e = .returned (.string { data := #[] }) ∧ Below W.heap.size W w' := fun W hb => of_c _ [] W (.inl ⟨rfl, rfl⟩) (fun x hx => by simp at hx) (by simp) (hk.call hb) (hp.call hb)
  have kr1 : ∀ v W, RdE W v [⟨1, h0H⟩, ⟨1, z0H⟩] → Calls Tryd.prog 9 #[v] W fun e w' => e = .returned (.bool true) ∧ Below W.heap.size W w' := fun v W h => by
    have := right_c v _ W h oks1 (by simp)
    rwa [rgt_w1] at this
  have kr2 : ∀ v W, RdE W v [⟨2, h0H⟩, ⟨1, z0H⟩] → Calls Tryd.prog 9 #[v] W fun e w' => e = .returned (.bool false) ∧ Below W.heap.size W w' := fun v W h => by
    have := right_c v _ W h oks2 (by simp)
    rwa [rgt_w2] at this
  have hof : ofF [⟨12, h0H⟩] = hexI (shaF (txF [⟨12, h0H⟩])) := ofF_ne _ (by simp)
  have htb := txF_bytes _ oks12
  have htl2 := txF_len _ oks12
  rw [hof] at kof
  clear hof
  obtain ⟨tx, htx2⟩ : ∃ tx, txF [⟨12, h0H⟩] = tx := ⟨_, rfl⟩
  rw [htx2] at kof htb htl2 htx
  have ha : ∀ W, (Op.stringOp .add (strOfNums ht) { data := #[58, 49, 50, 58] }).run Tryd.prog W = .ok (.string (strOfNums tx)) W := fun W => by
    rw [htx]; exact str_add ht [58, 49, 50, 58] (by simp; omega) W
  have HX := Lib.hid (fun W => str_bytes W tx htb)
  have KS := Lib.hid (show ∀ v W, RdB W v tx → Calls Tryd.prog 12 #[v] W fun e w' => e = .returned (.agg ((shaF tx).map (Value.int .u8)).toArray) ∧ Below W.heap.size W w' from fun v W h1 => rsum_c v _ W h1 htb (by simp at htl2; omega))
  have hsl := shaF_len tx
  have hsb := Lib.hid (shaF_bytes tx)
  generalize shaF tx = ss at *
  have KX := Lib.hid (show ∀ W g, RowT 27 .u8 g ss W → Calls Tryd.prog 14 #[.slice (some ⟨g, 0, none⟩) 32 32] W fun e w' => e = .returned (.string (strOfNums (hexI ss))) ∧ Below W.heap.size W w' from fun W g hr => by
    have := rhex_c (.slice (some ⟨g, 0, none⟩) ss.length 32) ss W (rdb_of_row hr (by rw [hsl]; omega)) hsb.out (by rw [hsl]; omega)
    rwa [hsl] at this)
  generalize strOfNums (hexI ss) = st at *
  have HIs := Lib.hid (info27 (ss.map (Value.int .u8)).toArray.size (by simpa using hsl)); have H32 := Lib.hid hsl
  have HS1 := Lib.hid (oneCell_map .u8 ss)
  have HIc := Lib.hid (info27 cH.toArray.size (by simpa using hcl)); have HCL := Lib.hid hcl; have HC1 := Lib.hid hc1
  have hiH := info27 cH.length hcl
  have hu := u_hash
  clear htx htx2 htl htl2 htb hsl hcl hc1
  go_enter Tryd.func6, Tryd.ntmps6
  go_upto_region 2 with (first | (refine wpList_buildh rfl rfl cH.toArray bh ?_) | refine wpList_store_row rfl 27 _ _ rfl _ rfl _ rfl 27 _ (heap_alloc_new _ _) HIc.out (by simp [HCL.out]) HC1.out ?_)
  refine wp_gen (fun W => RowV 27 w.heap.size cH W ∧ Below w.heap.size w W) ⟨setRow_heap _ _ _ _ 27 _ (heap_alloc_new _ _), _root_.Go.below_setRow (bel_alloc (Below.refl _ _) _) (Nat.le_refl _) _⟩ ?_
  rintro W ⟨hR, hB⟩
  simp only [Act.put]
  go_upto_region 3 with (first
    | (refine wpList_load_row rfl 27 _ rfl _ rfl 27 _ _ _ hR hu rfl HIc.out ?_)
    | (go_at_call 13; (with_reducible refine (kt _).mono ?_); rintro e w2 ⟨rfl, hb2⟩; have hB2 := bel_call hB hb2; have hR2 := hR.call hb2; obtain ⟨cap2, W1, hcv, hrd, hbw⟩ := HX.out w2)
    | (go_at_call 12; (with_reducible refine (KS.out _ _ hrd).mono ?_); rintro e w3 ⟨rfl, hb3⟩; have hB3 := bel_call (bel_call hB2 hbw) hb3; have hR3 := (hR2.call hbw).call hb3)
    | (refine wpList_store_row rfl 27 _ _ rfl _ rfl _ rfl 27 _ (heap_alloc_new _ _) HIs.out (by simp [H32.out]) HS1.out ?_))
  refine wp_gen (fun W => RowV 27 w.heap.size cH W ∧ RowT 27 .u8 w3.heap.size ss W ∧ Below w.heap.size w W) ⟨(hR3.alloc _).setRow_other (by have := hR3.lt; omega) _, setRow_heap _ _ _ _ 27 _ (heap_alloc_new _ _), _root_.Go.below_setRow (bel_alloc hB3 _) hB3.size _⟩ ?_
  clear hB2 hR2 hbw hB3 hR3 hb2 hb3 hrd hcv hB hR bh kt ha
  rintro W ⟨hR, hT, hB⟩
  have hwlt := hR.lt
  have hrg : W.rangeAt w.heap.size 0 cH := fun j v hv => by rw [Nat.zero_add, hR.cell]; exact hv
  have HS := Lib.hid (fun U (h : Below W.heap.size W U) => range_call' hrg hwlt h)
  have HB := Lib.hid (fun U (h : Below W.heap.size W U) => bel_call hB h)
  have KX2 := Lib.hid (fun U (h : Below W.heap.size W U) => KX.out U _ (hT.call h))
  have hacc : Below W.heap.size W W.drew := below_drewN W 1
  clear hR hT hB hrg KX
  simp only [Act.put]
  refine wp_region_noPanic ?_
  refine wp_region_held_drew (S := (fun w' => w'.rangeAt w.heap.size 0 cH)) (by kernel_rfl) (HS.out _ hacc) (fun hHeld => ?_)
  refine wpAnyH_take (i := 0) (oi := ?_) (v := .agg cH.toArray) ?_ (by kernel_rfl) (by kernel_rfl) (by kernel_rfl) ?_ (yieldsIf_load_mid ?_ 27 (.tmp 1) ?_ w.heap.size 0 ?_ _ _ ?_ hu rfl hiH) (by assumption) ?_
  rotate_left 1
  · simp only [List.getElem?_toArray, List.getElem?_cons_zero]; rfl
  · exact fun _ _ _ h => h
  · rfl
  · rfl
  · rfl
  · exact (fun _ h => h)
  try simp only [Act.put, List.setIfInBounds_toArray, List.set_cons_zero, List.set_cons_succ]
  refine wpAnyH_take (i := 1) (oi := ?_) (v := .agg e12) ?_ (by kernel_rfl) (by kernel_rfl) (by kernel_rfl) ?_ (Or.inl ⟨?_, ?_⟩) (by assumption) ?_
  rotate_left 1
  · simp only [List.getElem?_toArray, List.getElem?_cons_succ, List.getElem?_cons_zero]; rfl
  · exact fun _ _ _ h => h
  · rfl
  · (intro w hSw; exact run_exec_build 29 _ rfl (b12 w) (by simp [Act.eval]))
  try simp only [Act.put, List.setIfInBounds_toArray, List.set_cons_zero, List.set_cons_succ]
  refine wpAnyH_take (i := 4) (oi := ?_) (v := ?_) ?_ (by kernel_rfl) (by kernel_rfl) (by kernel_rfl) ?_ (Or.inl ⟨?_, ?_⟩) (by assumption) ?_
  rotate_left 2
  · simp only [List.getElem?_toArray, List.getElem?_cons_succ, List.getElem?_cons_zero]; rfl
  · exact fun _ _ _ h => h
  · rfl
  · (intro w hSw; (try dsimp only at hSw); go_simp) <;> with_reducible rfl
  try simp only [Act.put, List.setIfInBounds_toArray, List.set_cons_zero, List.set_cons_succ]
  refine wpAnyH_one 2 (o := ?_) (by kernel_rfl) ?_ (fun K hK => ?_)
  rotate_left 1
  · simp only [List.getElem?_toArray, List.getElem?_cons_succ, List.getElem?_cons_zero]; rfl
  rw [if_pos (by rfl)]
  refine wp_exec_slice 22 _ _ rfl (s1 W.drew) (by simp [Act.eval]) ?_
  have hrd1 := d1 W.drew; have hacc := bel_alloc hacc (.cells r12 29)
  refine hK.out _ _ (HS.out _ hacc) (fun hH => ?_)
  clear hHeld; have hHeld := hH; clear hH hK K
  try simp only [Act.put, List.setIfInBounds_toArray, List.set_cons_zero, List.set_cons_succ]
  refine wpAnyH_one 3 (o := ?_) (by kernel_rfl) ?_ (fun K hK => ?_)
  rotate_left 1
  · simp only [List.getElem?_toArray, List.getElem?_cons_succ, List.getElem?_cons_zero]; rfl
  go_simp
  refine (kof _ _ hrd1 (HB.out _ hacc)).mono ?_; rintro e w3 ⟨rfl, hb3⟩; have hacc := bel_call hacc hb3
  refine hK.out _ _ (HS.out _ hacc) (fun hH => ?_)
  clear hHeld; have hHeld := hH; clear hH hK K
  try simp only [Act.put, List.setIfInBounds_toArray, List.set_cons_zero, List.set_cons_succ]
  refine wpAnyH_one 5 (o := ?_) (by kernel_rfl) ?_ (fun K hK => ?_)
  rotate_left 1
  · simp only [List.getElem?_toArray, List.getElem?_cons_succ, List.getElem?_cons_zero]; rfl
  go_simp
  refine (KX2.out _ hacc).mono ?_; rintro e w5 ⟨rfl, hb5⟩; have hacc := bel_call hacc hb5
  refine hK.out _ _ (HS.out _ hacc) (fun hH => ?_)
  clear hHeld; have hHeld := hH; clear hH hK K
  try simp only [Act.put, List.setIfInBounds_toArray, List.set_cons_zero, List.set_cons_succ]
  refine wpAnyH_take (i := 6) (oi := ?_) (v := ?_) ?_ (by kernel_rfl) (by kernel_rfl) (by kernel_rfl) ?_ (Or.inl ⟨?_, ?_⟩) (by assumption) ?_
  rotate_left 2
  · simp only [List.getElem?_toArray, List.getElem?_cons_succ, List.getElem?_cons_zero]; rfl
  · exact fun _ _ _ h => h
  · rfl
  · (intro w hSw; (try dsimp only at hSw); go_simp) <;> with_reducible rfl
  try simp only [Act.put, List.setIfInBounds_toArray, List.set_cons_zero, List.set_cons_succ]
  refine wpAnyH_take (i := 7) (oi := ?_) (v := ?_) ?_ (by kernel_rfl) (by kernel_rfl) (by kernel_rfl) ?_ (Or.inl ⟨?_, ?_⟩) (by assumption) ?_
  rotate_left 2
  · simp only [List.getElem?_toArray, List.getElem?_cons_succ, List.getElem?_cons_zero]; rfl
  · exact fun _ _ _ h => h
  · rfl
  · (intro w hSw; (try dsimp only at hSw); go_simp) <;> with_reducible rfl
  try simp only [Act.put, List.setIfInBounds_toArray, List.set_cons_zero, List.set_cons_succ]
  refine wpAnyH_one 8 (o := ?_) (by kernel_rfl) ?_ (fun K hK => ?_)
  rotate_left 1
  · simp only [List.getElem?_toArray, List.getElem?_cons_succ, List.getElem?_cons_zero]; rfl
  go_simp
  refine (knil _ (HB.out _ hacc)).mono ?_; rintro e w8 ⟨rfl, hb8⟩; have hacc := bel_call hacc hb8
  refine hK.out _ _ (HS.out _ hacc) (fun hH => ?_)
  clear hHeld; have hHeld := hH; clear hH hK K
  try simp only [Act.put, List.setIfInBounds_toArray, List.set_cons_zero, List.set_cons_succ]
  refine wpAnyH_take (i := 9) (oi := ?_) (v := ?_) ?_ (by kernel_rfl) (by kernel_rfl) (by kernel_rfl) ?_ (Or.inl ⟨?_, ?_⟩) (by assumption) ?_
  rotate_left 2
  · simp only [List.getElem?_toArray, List.getElem?_cons_succ, List.getElem?_cons_zero]; rfl
  · exact fun _ _ _ h => h
  · rfl
  · (intro w hSw; (try dsimp only at hSw); go_simp) <;> with_reducible rfl
  try simp only [Act.put, List.setIfInBounds_toArray, List.set_cons_zero, List.set_cons_succ]
  refine wpAnyH_take (i := 10) (oi := ?_) (v := ?_) ?_ (by kernel_rfl) (by kernel_rfl) (by kernel_rfl) ?_ (Or.inl ⟨?_, ?_⟩) (by assumption) ?_
  rotate_left 2
  · simp only [List.getElem?_toArray, List.getElem?_cons_succ, List.getElem?_cons_zero]; rfl
  · exact fun _ _ _ h => h
  · rfl
  · (intro w hSw; (try dsimp only at hSw); go_simp) <;> with_reducible rfl
  try simp only [Act.put, List.setIfInBounds_toArray, List.set_cons_zero, List.set_cons_succ]
  refine wpAnyH_take (i := 11) (oi := ?_) (v := ?_) ?_ (by kernel_rfl) (by kernel_rfl) (by kernel_rfl) ?_ (Or.inl ⟨?_, ?_⟩) (by assumption) ?_
  rotate_left 2
  · simp only [List.getElem?_toArray, List.getElem?_cons_succ, List.getElem?_cons_zero]; rfl
  · exact fun _ _ _ h => h
  · rfl
  · (intro w hSw; (try dsimp only at hSw); go_simp) <;> with_reducible rfl
  try simp only [Act.put, List.setIfInBounds_toArray, List.set_cons_zero, List.set_cons_succ]
  refine wpAnyH_take (i := 12) (oi := ?_) (v := .agg cH.toArray) ?_ (by kernel_rfl) (by kernel_rfl) (by kernel_rfl) ?_ (yieldsIf_load_mid ?_ 27 (.tmp 1) ?_ w.heap.size 0 ?_ _ _ ?_ hu rfl hiH) (by assumption) ?_
  rotate_left 1
  · simp only [List.getElem?_toArray, List.getElem?_cons_succ, List.getElem?_cons_zero]; rfl
  · exact fun _ _ _ h => h
  · rfl
  · rfl
  · rfl
  · exact (fun _ h => h)
  try simp only [Act.put, List.setIfInBounds_toArray, List.set_cons_zero, List.set_cons_succ]
  refine wpAnyH_take (i := 13) (oi := ?_) (v := .agg e1) ?_ (by kernel_rfl) (by kernel_rfl) (by kernel_rfl) ?_ (Or.inl ⟨?_, ?_⟩) (by assumption) ?_
  rotate_left 1
  · simp only [List.getElem?_toArray, List.getElem?_cons_succ, List.getElem?_cons_zero]; rfl
  · exact fun _ _ _ h => h
  · rfl
  · (intro w hSw; exact run_exec_build 29 _ rfl (b1 w) (by simp [Act.eval]))
  try simp only [Act.put, List.setIfInBounds_toArray, List.set_cons_zero, List.set_cons_succ]
  refine wpAnyH_take (i := 14) (oi := ?_) (v := .agg ez) ?_ (by kernel_rfl) (by kernel_rfl) (by kernel_rfl) ?_ (Or.inl ⟨?_, ?_⟩) (by assumption) ?_
  rotate_left 1
  · simp only [List.getElem?_toArray, List.getElem?_cons_succ, List.getElem?_cons_zero]; rfl
  · exact fun _ _ _ h => h
  · rfl
  · (intro w hSw; exact run_exec_build 29 _ rfl (bz w) (by simp [Act.eval]))
  try simp only [Act.put, List.setIfInBounds_toArray, List.set_cons_zero, List.set_cons_succ]
  refine wpAnyH_one 15 (o := ?_) (by kernel_rfl) ?_ (fun K hK => ?_)
  rotate_left 1
  · simp only [List.getElem?_toArray, List.getElem?_cons_succ, List.getElem?_cons_zero]; rfl
  rw [if_pos (by rfl)]
  refine wp_exec_slice 22 _ _ rfl (s2 w8) (by simp [Act.eval]) ?_
  have hrd2 := d2 w8; have hacc := bel_alloc hacc (.cells r1 29)
  refine hK.out _ _ (HS.out _ hacc) (fun hH => ?_)
  clear hHeld; have hHeld := hH; clear hH hK K
  try simp only [Act.put, List.setIfInBounds_toArray, List.set_cons_zero, List.set_cons_succ]
  refine wpAnyH_one 16 (o := ?_) (by kernel_rfl) ?_ (fun K hK => ?_)
  rotate_left 1
  · simp only [List.getElem?_toArray, List.getElem?_cons_succ, List.getElem?_cons_zero]; rfl
  go_simp
  refine (kr1 _ _ hrd2).mono ?_; rintro e w16 ⟨rfl, hb16⟩; have hacc := bel_call hacc hb16
  refine hK.out _ _ (HS.out _ hacc) (fun hH => ?_)
  clear hHeld; have hHeld := hH; clear hH hK K
  try simp only [Act.put, List.setIfInBounds_toArray, List.set_cons_zero, List.set_cons_succ]
  refine wpAnyH_take (i := 17) (oi := ?_) (v := ?_) ?_ (by kernel_rfl) (by kernel_rfl) (by kernel_rfl) ?_ (Or.inl ⟨?_, ?_⟩) (by assumption) ?_
  rotate_left 2
  · simp only [List.getElem?_toArray, List.getElem?_cons_succ, List.getElem?_cons_zero]; rfl
  · exact fun _ _ _ h => h
  · rfl
  · (intro w hSw; (try dsimp only at hSw); go_simp) <;> with_reducible rfl
  try simp only [Act.put, List.setIfInBounds_toArray, List.set_cons_zero, List.set_cons_succ]
  refine wpAnyH_take (i := 18) (oi := ?_) (v := ?_) ?_ (by kernel_rfl) (by kernel_rfl) (by kernel_rfl) ?_ (Or.inl ⟨?_, ?_⟩) (by assumption) ?_
  rotate_left 2
  · simp only [List.getElem?_toArray, List.getElem?_cons_succ, List.getElem?_cons_zero]; rfl
  · exact fun _ _ _ h => h
  · rfl
  · (intro w hSw; (try dsimp only at hSw); go_simp) <;> with_reducible rfl
  try simp only [Act.put, List.setIfInBounds_toArray, List.set_cons_zero, List.set_cons_succ]
  refine wpAnyH_take (i := 19) (oi := ?_) (v := .agg cH.toArray) ?_ (by kernel_rfl) (by kernel_rfl) (by kernel_rfl) ?_ (yieldsIf_load_mid ?_ 27 (.tmp 1) ?_ w.heap.size 0 ?_ _ _ ?_ hu rfl hiH) (by assumption) ?_
  rotate_left 1
  · simp only [List.getElem?_toArray, List.getElem?_cons_succ, List.getElem?_cons_zero]; rfl
  · exact fun _ _ _ h => h
  · rfl
  · rfl
  · rfl
  · exact (fun _ h => h)
  try simp only [Act.put, List.setIfInBounds_toArray, List.set_cons_zero, List.set_cons_succ]
  refine wpAnyH_take (i := 20) (oi := ?_) (v := .agg e2) ?_ (by kernel_rfl) (by kernel_rfl) (by kernel_rfl) ?_ (Or.inl ⟨?_, ?_⟩) (by assumption) ?_
  rotate_left 1
  · simp only [List.getElem?_toArray, List.getElem?_cons_succ, List.getElem?_cons_zero]; rfl
  · exact fun _ _ _ h => h
  · rfl
  · (intro w hSw; exact run_exec_build 29 _ rfl (b2 w) (by simp [Act.eval]))
  try simp only [Act.put, List.setIfInBounds_toArray, List.set_cons_zero, List.set_cons_succ]
  refine wpAnyH_take (i := 21) (oi := ?_) (v := .agg ez) ?_ (by kernel_rfl) (by kernel_rfl) (by kernel_rfl) ?_ (Or.inl ⟨?_, ?_⟩) (by assumption) ?_
  rotate_left 1
  · simp only [List.getElem?_toArray, List.getElem?_cons_succ, List.getElem?_cons_zero]; rfl
  · exact fun _ _ _ h => h
  · rfl
  · (intro w hSw; exact run_exec_build 29 _ rfl (bz w) (by simp [Act.eval]))
  try simp only [Act.put, List.setIfInBounds_toArray, List.set_cons_zero, List.set_cons_succ]
  refine wpAnyH_one 22 (o := ?_) (by kernel_rfl) ?_ (fun K hK => ?_)
  rotate_left 1
  · simp only [List.getElem?_toArray, List.getElem?_cons_succ, List.getElem?_cons_zero]; rfl
  rw [if_pos (by rfl)]
  refine wp_exec_slice 22 _ _ rfl (s3 w16) (by simp [Act.eval]) ?_
  have hrd3 := d3 w16; have hacc := bel_alloc hacc (.cells r2 29)
  refine hK.out _ _ (HS.out _ hacc) (fun hH => ?_)
  clear hHeld; have hHeld := hH; clear hH hK K
  try simp only [Act.put, List.setIfInBounds_toArray, List.set_cons_zero, List.set_cons_succ]
  refine wpAnyH_one 23 (o := ?_) (by kernel_rfl) ?_ (fun K hK => ?_)
  rotate_left 1
  · simp only [List.getElem?_toArray, List.getElem?_cons_succ, List.getElem?_cons_zero]; rfl
  go_simp
  refine (kr2 _ _ hrd3).mono ?_; rintro e w23 ⟨rfl, hb23⟩; have hacc := bel_call hacc hb23
  refine hK.out _ _ (HS.out _ hacc) (fun hH => ?_)
  clear hHeld; have hHeld := hH; clear hH hK K
  try simp only [Act.put, List.setIfInBounds_toArray, List.set_cons_zero, List.set_cons_succ]
  refine wpAnyH_take (i := 24) (oi := ?_) (v := ?_) ?_ (by kernel_rfl) (by kernel_rfl) (by kernel_rfl) ?_ (Or.inl ⟨?_, ?_⟩) (by assumption) ?_
  rotate_left 2
  · simp only [List.getElem?_toArray, List.getElem?_cons_succ, List.getElem?_cons_zero]; rfl
  · exact fun _ _ _ h => h
  · rfl
  · (intro w hSw; (try dsimp only at hSw); go_simp) <;> with_reducible rfl
  try simp only [Act.put, List.setIfInBounds_toArray, List.set_cons_zero, List.set_cons_succ]
  refine wpAnyH_take (i := 25) (oi := ?_) (v := ?_) ?_ (by kernel_rfl) (by kernel_rfl) (by kernel_rfl) ?_ (Or.inl ⟨?_, ?_⟩) (by assumption) ?_
  rotate_left 2
  · simp only [List.getElem?_toArray, List.getElem?_cons_succ, List.getElem?_cons_zero]; rfl
  · exact fun _ _ _ h => h
  · rfl
  · (intro w hSw; (try dsimp only at hSw); go_simp) <;> with_reducible rfl
  try simp only [Act.put, List.setIfInBounds_toArray, List.set_cons_zero, List.set_cons_succ]
  refine wpAnyH_take (i := 26) (oi := ?_) (v := ?_) ?_ (by kernel_rfl) (by kernel_rfl) (by kernel_rfl) ?_ (Or.inl ⟨?_, ?_⟩) (by assumption) ?_
  rotate_left 2
  · simp only [List.getElem?_toArray, List.getElem?_cons_succ, List.getElem?_cons_zero]; rfl
  · exact fun _ _ _ h => h
  · rfl
  · (intro w hSw; (try dsimp only at hSw); go_simp) <;> with_reducible rfl
  try simp only [Act.put, List.setIfInBounds_toArray, List.set_cons_zero]
  refine wpAnyH_done (by kernel_rfl) ?_ _
  refine NoPanic.normal ?_
  try simp only [Act.put, List.setIfInBounds_toArray, List.set_cons_zero, List.set_cons_succ]
  go_wp2_with fail
  go_ret
  exact ⟨rfl, HB.out _ hacc⟩
end Go.Proofs.YtoeooabaofpngaaDoor
