/- The state of no bytes. -/
import Derived.Test.YtfohemgfiidokaaGreatDoorSe
namespace Go.Proofs.YtfohemgfiidokaaGreatDoor
open Go.RowKit Go.Sort
attribute [local go_sem ↓] Go.wp_at_zero Go.wp_at_succ

theorem u_state : (Tryz.prog.underlying 149).map (fun d => match d with | .struct _ => true | _ => false) = some true := by kernel_rfl
theorem info149 (n : Nat) (h : n = 74) : (Tryz.prog.info? 149).map (·.size) = some n := by rw [h]; kernel_rfl
theorem u_state' : ∃ fs, Tryz.prog.underlying 149 = some (.struct fs) := by
  have h := u_state
  cases e : Tryz.prog.underlying 149 with
  | none => rw [e] at h; cases h
  | some d =>
    rw [e] at h
    cases d <;> first | exact ⟨_, rfl⟩ | (simp at h)
theorem run_build_state (w : World) : (Instr.build 149 #[(0, .bool true), (1, .agg (h0L.map (Value.int .u32)).toArray)]).run Tryz.prog w = .ok (.agg (stV h0L (List.replicate 64 0) 0).toArray) w := by kernel_rfl
theorem zero_state (w : World) : (zeroValue 149).run Tryz.prog w = .ok (.agg ([Value.bool false] ++ ((List.replicate 8 (0 : Int)).map (Value.int .u32) ++ ((List.replicate 64 (0 : Int)).map (Value.int .u8) ++ [Value.int .u64 0]))).toArray) w := by kernel_rfl
theorem zero_state' : ∃ vs : List Value, vs.length = 74 ∧ ∀ w, (zeroValue 149).run Tryz.prog w = .ok (.agg vs.toArray) w := ⟨_, by simp, zero_state⟩
theorem start_c (w : World) : Calls Tryz.prog 110 #[] w fun e w' => e = .returned (.agg (h0L.map (Value.int .u32)).toArray) ∧ Below w.heap.size w w' := by
  go_enter Tryz.func110, Tryz.ntmps110
  go_wp2_with (refine wpList_store_row rfl 146 _ _ rfl _ rfl (h0L.map (Value.int .u32)).toArray rfl 146 _ (heap_alloc_new _ _) (info146 _ rfl) rfl (oneCell_map _ _) ?_)
  exact bodyPost_ret (v := .agg (h0L.map (Value.int .u32)).toArray) (results_cell_row rfl _ _ _ 146 _ _ _ rfl (setRow_heap _ _ _ _ 146 _ (heap_alloc_new _ _)) u_words rfl (info146 _ rfl)) rfl ⟨rfl, below_setRow (bel_alloc (Below.refl _ _) _) (Nat.le_refl _) (by simp) _⟩
theorem wpList_build_state {ops : Array Oper} {rest : List Oper} {o : Oper} {a : Act} {w : World} {Q : Exit → Act → World → Prop} (hgd : o.guard = none) (k : Tmp) (ho : o.op = .build 149 #[(0, .const (.bool true)), (1, .tmp k)])
    (hs : a.eval (.tmp k) = .agg (h0L.map (Value.int .u32)).toArray)
    (cs : Array Value) (hcs : (stV h0L (List.replicate 64 0) 0).toArray = cs) (h : wpList Tryz.prog ops Q rest (a.put o.dst (.agg cs)) w) : wpList Tryz.prog ops Q (o :: rest) a w := by
  subst hcs
  refine wpList_plain hgd fun K hK => ?_
  unfold Oper.wp execOp
  simp only [ho, List.map_toArray, List.map_cons, List.map_nil, hs, Sem.run_bind, Sem.run_pure]
  rw [show a.eval (.const (.bool true)) = .bool true from rfl, run_build_state]
  exact hK _ _ h
set_option maxRecDepth 100000 in
theorem Begin_c (w : World) : Calls Tryz.prog 103 #[] w fun e w' => e = .returned (.agg (stV h0L (List.replicate 64 0) 0).toArray) ∧ Below w.heap.size w w' := by
  obtain ⟨cs, hcs⟩ : ∃ cs, (stV h0L (List.replicate 64 0) 0).toArray = cs := ⟨_, rfl⟩
  have hcl : cs.size = 74 := by rw [← hcs]; rfl
  have hone : ∀ v ∈ cs.toList, v.oneCell' = true := by rw [← hcs]; exact stV_one _ _ _
  obtain ⟨fs, hu⟩ := u_state'
  have HU := Lib.hid hu
  have HC := Lib.hid hcs
  have HI := Lib.hid (info149 cs.size hcl)
  have HZ := Lib.hid hcl
  obtain ⟨h0, hh0⟩ : ∃ h0, (h0L.map (Value.int .u32)).toArray = h0 := ⟨_, rfl⟩
  have hst : ∀ V, Calls Tryz.prog 110 #[] V fun e w' => e = .returned (.agg h0) ∧ Below V.heap.size V w' := hh0 ▸ start_c
  have HH := Lib.hid hh0
  clear hcs hu hcl hh0
  obtain ⟨vs, hvl, hzs⟩ := zero_state'
  have h1 : RowV 149 w.heap.size vs (w.alloc (.cells vs.toArray 149)) := RowV.new _ _ _
  have h2 : Below w.heap.size w (w.alloc (.cells vs.toArray 149)) := bel_alloc (Below.refl _ _) _
  have HV := Lib.hid hvl
  clear hvl
  go_enter Tryz.func103, Tryz.ntmps103
  go_upto_region 1 with fail
  refine wp_gen (fun W => RowV 149 w.heap.size vs W ∧ Below w.heap.size w W) ⟨h1, h2⟩ ?_
  clear h1 h2
  rintro W ⟨h1, h2⟩
  go_upto_region 2 with (first
    | (go_at_call 110; (with_reducible refine (hst _).mono ?_); rintro e w2 ⟨rfl, hb2⟩; have h3 : w2.heap[w.heap.size]? = _ := h1.call hb2; have h4 := bel_call h2 hb2)
    | (refine wpList_build_state rfl _ rfl (by rw [HH.out]; rfl) cs HC.out ?_)
    | (refine wpList_store_row rfl 149 _ _ rfl _ rfl _ rfl 149 _ h3 HI.out (by rw [HZ.out]; simpa using HV.out) hone ?_))
  exact bodyPost_ret (v := .agg cs) (results_cell_row rfl _ _ _ 149 _ _ _ rfl (setRow_heap _ _ _ _ 149 _ h3) HU.out rfl HI.out) rfl ⟨by rw [HC.out], _root_.Go.below_setRow h4 (Nat.le_refl _) _⟩
end Go.Proofs.YtfohemgfiidokaaGreatDoor
