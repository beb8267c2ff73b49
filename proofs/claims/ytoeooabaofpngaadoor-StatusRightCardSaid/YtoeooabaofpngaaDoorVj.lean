/- Entries compared. -/
import Derived.Test.YtoeooabaofpngaaDoorVi
namespace Go.Proofs.YtoeooabaofpngaaDoor
open Go.RowKit Go.Sort

theorem part_h (x : En) (w : World) : (part 3 (enV x).toArray 0).run Tryd.prog w = .ok (.int .i64 x.h) w := by
  simp [part, Tryd.isAgg3, enV, Result.andThen]
theorem part_t (x : En) (o : x.Ok) (w : World) : (part 27 (enV x).toArray 1).run Tryd.prog w = .ok (.agg (x.t.map (Value.int .u8)).toArray) w := by
  have h2 : List.take 32 (x.t.map (Value.int .u8)) = x.t.map (Value.int .u8) := List.take_of_length_le (by simp [o.l])
  simp [part, Tryd.isAgg27, Tryd.sizeOf27, Result.andThen, enV, h2]
theorem run_eq_en (x y : En) (ox : x.Ok) (oy : y.Ok) (w : World) : (Op.equalIn 10000 29 (.agg (enV x).toArray) (.agg (enV y).toArray)).run Tryd.prog w = .ok (x.h == y.h && x.t == y.t) w := by
  have hf : (Tryd.prog.fieldsOf 29).toList.map (fun f => (f.name == "_", f.type, f.offset)) = [(false, 3, 0), (false, 27, 1)] := by kernel_rfl
  rw [run_equalIn_agg w 9999 29 _ _ (by kernel_rfl) (by kernel_rfl)]
  generalize (Tryd.prog.fieldsOf 29).toList = l at hf
  obtain ⟨f1, f2, rfl⟩ : ∃ f1 f2, l = [f1, f2] := by
    have h2 : l.length = 2 := by have := congrArg List.length hf; simpa using this
    rcases l with _ | ⟨f1, _ | ⟨f2, _ | ⟨f3, l⟩⟩⟩
    · simp at h2
    · simp at h2
    · exact ⟨f1, f2, rfl⟩
    · simp at h2
  simp only [List.map_cons, List.map_nil, List.cons.injEq, Prod.mk.injEq, beq_eq_false_iff_ne, and_true] at hf
  obtain ⟨⟨a1, a2, a3⟩, b1, b2, b3⟩ := hf
  have q1 : (Op.equalIn 9999 3 (.int .i64 x.h) (.int .i64 y.h)).run Tryd.prog w = .ok (x.h == y.h) w := run_equalIn_int w 9998 3 .i64 .i64 _ _ Tryd.underlying3
  have q2 : (Op.equalIn 9999 27 (.agg (x.t.map (Value.int .u8)).toArray) (.agg (y.t.map (Value.int .u8)).toArray)).run Tryd.prog w = .ok (x.t == y.t) w := run_equalIn_ints w 9997 27 5 .u8 32 u_hash Tryd.underlying5 Tryd.sizeOf5 x.t y.t ox.l oy.l
  cases h1 : (x.h == y.h) <;> cases h2 : (x.t == y.t) <;> rw [h1] at q1 <;> rw [h2] at q2 <;> simp [Op.eqFields, a1, a2, a3, b1, b2, b3, part_h, part_t _ ox, part_t _ oy, q1, q2, Result.andThen]
theorem en_beq (x y : En) : (x.h == y.h && x.t == y.t) = true ↔ x = y := by
  cases x; cases y; simp
theorem run_eql_en (x y : En) (ox : x.Ok) (oy : y.Ok) (w : World) : (binOp .eql 29 (.agg (enV x).toArray) (.agg (enV y).toArray)).run Tryd.prog w = .ok (.bool (x.h == y.h && x.t == y.t)) w := by
  rw [run_eql_struct, run_eq_en x y ox oy w]; rfl
theorem run_neq_en (x y : En) (ox : x.Ok) (oy : y.Ok) (w : World) : (binOp .neq 29 (.agg (enV x).toArray) (.agg (enV y).toArray)).run Tryd.prog w = .ok (.bool (!(x.h == y.h && x.t == y.t))) w := by
  rw [run_neq_struct, run_eq_en x y ox oy w]; rfl
theorem flat_len (l : List En) (ok : EnsOk l) : (l.flatMap enV).length = l.length * 33 := by
  induction l with
  | nil => rfl
  | cons y l ih => rw [List.flatMap_cons, List.length_append, enV_len y (ok y (by simp)), ih fun z hz => ok z (by simp [hz]), List.length_cons]; omega
theorem flat_get : ∀ (l : List En) (_ : EnsOk l) (j : Nat) (x : En) (u : Nat), l[j]? = some x → u < 33 → (l.flatMap enV)[j * 33 + u]? = (enV x)[u]?
  | [], _, j, x, u, hj, _ => by simp at hj
  | y :: l, ok, j, x, u, hj, hu => by
    have hy : (enV y).length = 33 := enV_len y (ok y (by simp))
    rw [List.flatMap_cons]
    cases j with
    | zero =>
      simp at hj
      subst hj
      rw [List.getElem?_append_left (by omega), show 0 * 33 + u = u by omega]
    | succ j =>
      rw [List.getElem?_append_right (by omega), hy, show (j + 1) * 33 + u - 33 = j * 33 + u by omega]
      exact flat_get l (fun z hz => ok z (by simp [hz])) j x u (by simpa using hj) hu
/-- a slice of entries that the call has made -/
theorem rdE_own {w : World} {B : Nat} {v : Value} {l : List En} (ok : EnsOk l) (h : w.ownsRow B 29 33 v l.length (l.flatMap enV)) : RdE w v l := by
  have h' := h
  obtain ⟨h1, h2⟩ := h
  rcases h2 with ⟨rfl, h2⟩ | ⟨g, cap, cur, rfl, e2, e3, e4, e5, e6, e7⟩
  · exact .inl ⟨rfl, List.length_eq_zero_iff.1 h2⟩
  · refine .inr ⟨_, g, 0, cap, rfl, e4, fun _ => ⟨rfl, ?_⟩, fun j x hj u v hv => ?_⟩
    · by_cases hlt : g < w.heap.size
      · exact hlt
      · rw [Array.getElem?_eq_none (by omega)] at e3; cases e3
    · have hu : u < 33 := by
        have hx := enV_len x (ok x (List.mem_of_getElem? hj))
        rw [← hx]
        rcases Nat.lt_or_ge u (enV x).length with h | h
        · exact h
        · rw [List.getElem?_eq_none h] at hv; cases hv
      have hjl : j < l.length := by
        rcases Nat.lt_or_ge j l.length with h | h
        · exact h
        · rw [List.getElem?_eq_none h] at hj; cases hj
      rw [Nat.zero_add, h'.cellAt (j * 33 + u) (by have : (j + 1) * 33 ≤ l.length * 33 := Nat.mul_le_mul_right _ hjl; omega), flat_get l ok j x u hj hu]
      exact hv
theorem infoE : (Tryd.prog.info? 29).map (fun i => (i.zero, i.size, i.bytes)) = some (some (.agg (enV ⟨0, List.replicate 32 0⟩).toArray), 33, 40) := by kernel_rfl
theorem zeroE_size : (Value.agg (enV ⟨0, List.replicate 32 0⟩).toArray).cells.size = 33 := by kernel_rfl
theorem enVs_one (l : List En) : ∀ u ∈ l.flatMap enV, u.oneCell' = true := by
  intro u hu
  obtain ⟨x, _, hu⟩ := List.mem_flatMap.1 hu
  exact enV_one x u (by simpa using hu)
/-- the cells of entries that may be read, one behind the other -/
theorem rdE_cells {w : World} {g o : Nat} {l : List En} (ok : EnsOk l) (h : ∀ j x, l[j]? = some x → w.rangeAt g (o + j * 33) (enV x)) : ∀ (j : Nat) (u : Value), (l.flatMap enV)[j]? = some u → w.cell? ((⟨g, o, none⟩ : Addr).add j) = some u := by
  intro j u hu
  have hj : j < l.length * 33 := by
    rw [← flat_len l ok]
    rcases Nat.lt_or_ge j (l.flatMap enV).length with h | h
    · exact h
    · rw [List.getElem?_eq_none h] at hu; cases hu
  have hq : j / 33 < l.length := by omega
  have hx : l[j / 33]? = some l[j / 33] := List.getElem?_eq_getElem hq
  have h1 := flat_get l ok (j / 33) _ (j % 33) hx (by omega)
  rw [show j / 33 * 33 + j % 33 = j by omega, hu] at h1
  have h2 := h _ _ hx (j % 33) u h1.symm
  rw [Addr.add_lit, ← h2]
  congr 2; omega
end Go.Proofs.YtoeooabaofpngaaDoor
