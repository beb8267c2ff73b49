/- The anchor. -/
import Derived.Test.YtoeooabaofpngaaOu
namespace Go.Proofs.Ytoeooabaofpngaa
open Go.RowKit Go.Sort
theorem wk8 (W : World) : Calls Try.prog 10 #[.slice none 0 0, .int .u64 513, .int .i64 2] W fun e w' => ∃ v', e = .returned v' ∧ RowO w' W.heap.size v' [1, 2] ∧ Below W.heap.size W w' := by
  have := put_c (.slice none 0 0) [] 513 2 W (.inl ⟨rfl, rfl⟩) (by simp) (by omega) (by omega)
  rw [show putB [] 513 2 = [1, 2] by decide] at this
  exact this
theorem wpList_wanted {P : Program} {ops : Array Oper} {rest : List Oper} {o : Oper} {a : Act} {w : World} {Q : Exit → Act → World → Prop} (hg : Region.wanted o (yielded ops a.tmps) = true)
    (h : ∀ K : Act → World → Prop, (∀ a w, wpList P ops Q rest a w → K a w) → o.wp P a w K Q) : wpList P ops Q (o :: rest) a w :=
  wpList_step fun K hK => by simp only [hg, if_true]; exact h K hK
theorem wpList_load_row_g {P : Program} {ops : Array Oper} {rest : List Oper} {o : Oper} {a : Act} {w : World} {Q : Exit → Act → World → Prop} (ty : TypeId) (x : Operand) (ho : o.op = .load ty x) (hgd : Region.wanted o (yielded ops a.tmps) = true)
    (g : Nat) (hx : a.eval x = .pointer (some ⟨g, 0, none⟩)) (t : TypeId) (cs : Array Value) (fr : Nat × Nat) (d : TypeDesc) (hg : w.heap[g]? = some (.cells cs t fr))
    (hu : P.underlying ty = some d) (hd : (match d with | .struct _ | .array _ _ => true | _ => false) = true) (hi : (P.info? ty).map (·.size) = some cs.size)
    (h : wpList P ops Q rest (a.put o.dst (.agg cs)) w) : wpList P ops Q (o :: rest) a w :=
  wpList_wanted hgd fun _ hK => wp_load_row ty x ho g hx t cs fr d hg hu hd hi (hK _ _ h)
/-- the hash {1, 2} built -/
theorem run_build12 (w : World) : (Instr.build 34 #[(0, .int .u8 1), (1, .int .u8 2)]).run Try.prog w = .ok (.agg (h12.map (Value.int .u8)).toArray) w := by kernel_rfl
theorem wpList_build12 {ops : Array Oper} {rest : List Oper} {o : Oper} {a : Act} {w : World} {Q : Exit → Act → World → Prop} (ho : o.op = .build 34 #[(0, .const (.int .u8 1)), (1, .const (.int .u8 2))]) (hwant : Region.wanted o (yielded ops a.tmps) = true)
    (cs : Array Value) (hcs : (h12.map (Value.int .u8)).toArray = cs) (h : wpList Try.prog ops Q rest (a.put o.dst (.agg cs)) w) : wpList Try.prog ops Q (o :: rest) a w := by
  subst hcs
  refine wpList_wanted hwant fun K hK => ?_
  unfold Oper.wp execOp
  simp only [ho, List.map_toArray, List.map_cons, List.map_nil, Act.eval, Sem.run_bind, Sem.run_pure, run_build12, Result.andThen_ok]
  exact hK _ _ h
/-- the anchor's calls at a hash under a name -/
theorem wk_cs : ∃ cs : Array Value, (h12.map (Value.int .u8)).toArray = cs ∧ cs.size = 32 ∧ (∀ v ∈ cs.toList, v.oneCell' = true) ∧ (∀ w, (binOp .eql 34 (.agg cs) (.agg cs)).run Try.prog w = .ok (.bool true) w) ∧
    ∃ st : ByteArray, (∀ W, Calls Try.prog 22 #[.agg cs] W fun e w' => e = .returned (.string st) ∧ Below W.heap.size W w') ∧ (∀ W, Calls Try.prog 18 #[.string st] W fun e w' => e = .returned (.tuple #[.agg cs, .int .i64 0]) ∧ Below W.heap.size W w') :=
  ⟨_, rfl, rfl, oneCell_map _, wk6, _, wk4, wk5⟩
theorem wk9 (W : World) (v : Value) (h : RdB W v [10, 255]) : Calls Try.prog 14 #[v, .slice (some ⟨W.heap.size, 0, none⟩) 2 2] (W.alloc (.cells #[.int .u8 10, .int .u8 255] 5)) fun e w' => e = .returned (.bool true) ∧ Below W.heap.size W w' := by
  have hb : Below W.heap.size W (W.alloc (.cells #[.int .u8 10, .int .u8 255] 5)) := bel_alloc (Below.refl _ _) _
  refine (same_c v _ [10, 255] [10, 255] _ (h.keep hb) (rdb_of_row (xs := [10, 255]) (heap_alloc_new _ _) (Nat.le_refl _)) (by simp) (by simp)).mono ?_
  rintro e w' ⟨rfl, hb2⟩
  exact ⟨rfl, bel_call hb hb2⟩
theorem wk10 (W : World) (v : Value) (h : RdB W v [1, 2]) : Calls Try.prog 14 #[v, .slice (some ⟨W.heap.size, 0, none⟩) 2 2] (W.alloc (.cells #[.int .u8 1, .int .u8 2] 5)) fun e w' => e = .returned (.bool true) ∧ Below W.heap.size W w' := by
  have hb : Below W.heap.size W (W.alloc (.cells #[.int .u8 1, .int .u8 2] 5)) := bel_alloc (Below.refl _ _) _
  refine (same_c v _ [1, 2] [1, 2] _ (h.keep hb) (rdb_of_row (xs := [1, 2]) (heap_alloc_new _ _) (Nat.le_refl _)) (by simp) (by simp)).mono ?_
  rintro e w' ⟨rfl, hb2⟩
  exact ⟨rfl, bel_call hb hb2⟩
theorem zeros32 : (#[.int .u8 0, .int .u8 0, .int .u8 0, .int .u8 0, .int .u8 0, .int .u8 0, .int .u8 0, .int .u8 0, .int .u8 0, .int .u8 0, .int .u8 0, .int .u8 0, .int .u8 0, .int .u8 0, .int .u8 0, .int .u8 0, .int .u8 0, .int .u8 0, .int .u8 0, .int .u8 0, .int .u8 0, .int .u8 0, .int .u8 0, .int .u8 0, .int .u8 0, .int .u8 0, .int .u8 0, .int .u8 0, .int .u8 0, .int .u8 0, .int .u8 0, .int .u8 0] : Array Value).size = 32 := rfl
set_option maxRecDepth 100000 in
set_option maxHeartbeats 2000000 in
theorem works_c (w : World) : Calls Try.prog 9 #[] w fun e w' => e = .returned (.bool true) ∧ Below w.heap.size w w' := by
  obtain ⟨cs, hcs, hsz, hone, hq, st, k4, k5⟩ := wk_cs
  have hi34 := info34 cs.size hsz
  have hz := zeros32.trans hsz.symm
  have HI := Lib.hid hi34
  have HCS := Lib.hid hcs
  have HZ := Lib.hid hz
  clear hsz hi34 hcs hz
  go_enter Try.func9, Try.ntmps9
  go_upto_region 2 with (go_at_call 25; with_reducible refine (wk1 w).mono ?_; rintro e w1 ⟨rfl, rfl⟩)
  refine wp_gen (fun W => Below w.heap.size w W) (bel_alloc (Below.refl _ _) _) ?_
  intro W hB
  go_upto_region 3 with (go_at_call 25; with_reducible refine (wk2 W).mono ?_; rintro e w1 ⟨rfl, rfl⟩)
  refine wp_gen (fun W => Below w.heap.size w W) (bel_alloc hB _) ?_
  clear hB
  intro W hB
  go_upto_region 4 with (go_at_call 16; with_reducible refine (wk3 W).mono ?_; rintro e w1 ⟨v1, rfl, hr1, hb1⟩)
  have hB1 := bel_call hB hb1
  clear hB hb1
  go_upto_region 5 with first
    | (refine wpList_build12 rfl rfl cs HCS.out ?_)
    | (go_at_call 22; with_reducible refine (k4 _).mono ?_; rintro e w2 ⟨rfl, hb2⟩; have hB2 := bel_call hB1 hb2; have hr2 := hr1.keep hb2)
    | (go_at_call 18; with_reducible refine (k5 _).mono ?_; rintro e w3 ⟨rfl, hb3⟩; have hB3 := bel_call hB2 hb3; have hr3 := hr2.keep hb3)
    | (refine wpList_store_row rfl 34 _ _ rfl _ rfl _ rfl 34 _ (heap_alloc_new _ _) HI.out HZ.out hone ?_)
  refine wp_gen (fun W => Below w.heap.size w W ∧ RdB W v1 [10, 255] ∧ W.heap[w3.heap.size]? = some (.cells cs 34 (0, 0))) ⟨below_setRow (bel_alloc hB3 _) hB3.size (by simp) _, hr3.rd.keep (below_setRow (bel_alloc (Below.refl _ _) _) (Nat.le_refl _) (by simp) _), setRow_heap _ _ _ _ 34 _ (heap_alloc_new _ _)⟩ ?_
  clear hB1 hB2 hB3 hr1 hr2 hr3 hb2 hb3 k4 k5
  generalize w3.heap.size = B3
  rintro W ⟨hB, hv, hH⟩
  have hlt : B3 < W.heap.size := by
    by_cases hlt : B3 < W.heap.size
    · exact hlt
    · rw [Array.getElem?_eq_none (by omega)] at hH; cases hH
  have HH := Lib.hid hH
  clear hH
  have hbb := Below.refl W.heap.size W
  go_wp2_with first
    | (refine wpList_build12 rfl rfl cs HCS.out ?_)
    | (refine wpList_load_row_g 34 _ rfl rfl B3 rfl 34 _ _ _ ((hbb.block B3 hlt).trans HH.out) Try.underlying34 rfl HI.out ?_)
    | (go_at_call 20; with_reducible refine (wk7 _ _ (hv.keep hbb)).mono ?_; rintro e w4 ⟨rfl, hb4⟩; have hbb := bel_call hbb hb4)
    | (go_at_call 10; with_reducible refine (wk8 _).mono ?_; rintro e w4 ⟨vp, rfl, hrp, hb4⟩; have hbb := bel_call hbb hb4)
    | (go_at_call 14; with_reducible refine (wk9 _ _ (hv.keep hbb)).mono ?_; rintro e w4 ⟨rfl, hb4⟩; have hbb := bel_call hbb hb4)
    | (go_at_call 14; with_reducible refine (wk10 _ _ hrp.rd).mono ?_; rintro e w4 ⟨rfl, hb4⟩; have hbb := bel_call hbb hb4)
  go_ret
  exact ⟨rfl, bel_call hB hbb⟩
end Go.Proofs.Ytoeooabaofpngaa
