/- The walk of StatusRight. -/
import Derived.Test.YtoeooabaofpngaaDoorVk
namespace Go.Proofs.YtoeooabaofpngaaDoor
open Go.RowKit Go.Sort
attribute [local go_sem ↓] Go.wp_at_zero Go.wp_at_succ

/-- entries of which a part is taken -/
theorem rdE_part {w : World} {g o : Nat} {l : List En} (h : ∀ j x, l[j]? = some x → w.rangeAt g (o + j * 33) (enV x)) (hg : g < w.heap.size) (j z cap : Nat) (hj : j + z ≤ l.length) (hc : z ≤ cap) : RdE w (.slice (some ⟨g, o + j * 33, none⟩) z cap) ((l.drop j).take z) := by
  have hlen : ((l.drop j).take z).length = z := by rw [List.length_take, List.length_drop]; omega
  refine .inr ⟨_, g, o + j * 33, cap, by rw [hlen], by omega, fun _ => ⟨rfl, hg⟩, fun q x hq => ?_⟩
  have hqz : q < z := by
    rw [← hlen]
    rcases Nat.lt_or_ge q ((l.drop j).take z).length with h | h
    · exact h
    · rw [List.getElem?_eq_none h] at hq; cases hq
  rw [List.getElem?_take, if_pos hqz, List.getElem?_drop] at hq
  rw [show o + j * 33 + q * 33 = o + (j + q) * 33 by omega]
  exact h _ _ hq
theorem rdE_nil {w : World} (a : Addr) (cap : Nat) : RdE w (.slice (some a) 0 cap) [] := .inr ⟨a, 0, 0, cap, rfl, Nat.zero_le _, fun h => by simp at h, fun j x hj => by simp at hj⟩
theorem wp_append_en {w : World} {o : Oper} {a : Act} {K : Act → World → Prop} {Q : Exit → Act → World → Prop} (s x : Operand)
    (ho : o.op = .call { callee := .builtin .append, args := #[s, x], argTypes := #[22, 22] }) (base : Nat) (hbase : base ≤ w.heap.size)
    (v : Value) (xs : List En) (hs : a.eval s = v) (hown : w.ownsRow base 29 33 v xs.length (xs.flatMap enV)) (u : Value) (ys : List En) (hx : a.eval x = u) (hr : RdE w u ys) (ok : EnsOk ys) (hlen : xs.length + ys.length ≤ 1000000)
    (h : ∀ v' w', w'.ownsRow base 29 33 v' (xs ++ ys).length ((xs ++ ys).flatMap enV) → w.grownBy w' v.ownBlock → K (a.put o.dst v') w') : o.wp Tryd.prog a w K Q := by
  obtain ⟨i0, hi, hz0, hz1, hz2⟩ := info_parts infoE
  rcases hr with ⟨rfl, rfl⟩ | ⟨a', g, of, cap, rfl, hc, ha, hcell⟩
  · have hr := run_append_owned_none (w := w) (P := Tryd.prog) base 22 o.type 29 i0 33 Tryd.underlying22 hi v xs.length _ hown
    unfold Oper.wp execOp
    simp only [ho, resolve, invoke, builtin, Sem.run_bind, Sem.run_pure, Result.andThen_ok, List.map_toArray, List.map_cons, List.map_nil, hs, hx, hr]
    exact h v w (by rw [List.append_nil]; exact hown) (grownBy_refl _ _)
  · have hcs : ∀ (j : Nat) (z : Value), (ys.flatMap enV)[j]? = some z → w.cell? (a'.add j) = some z := by
      by_cases hp : 0 < ys.length
      · obtain ⟨rfl, -⟩ := ha hp
        exact rdE_cells ok hcell
      · have : ys = [] := List.length_eq_zero_iff.1 (by omega)
        subst this
        intro j z hz; simp at hz
    refine wp_append_own w s x 22 ho base 29 i0 _ 33 40 Tryd.underlying22 hi hz0 hz1 hz2 zeroE_size (by decide) v xs.length _ hs hown a' ys.length cap (ys.flatMap enV) hx (flat_len ys ok) hcs (enVs_one ys) (by unfold maxLen; omega) (by omega) hbase ?_
    intro v' w1 hown' hgrow _
    refine h v' w1 ?_ hgrow
    rw [List.length_append, List.flatMap_append]
    exact hown'
theorem slice_0 (w : World) : (Instr.buildSlice 22 0 #[]).run Tryd.prog w = .ok (.slice (some ⟨w.heap.size, 0, none⟩) 0 0) (w.alloc (.cells #[] 29)) := by kernel_rfl
theorem ownsE_nil' (w : World) (B : Nat) (hB : B ≤ w.heap.size) : (w.alloc (.cells #[] 29)).ownsRow B 29 33 (.slice (some ⟨w.heap.size, 0, none⟩) 0 0) ([] : List En).length (([] : List En).flatMap enV) :=
  ⟨rfl, .inr ⟨_, 0, #[], rfl, hB, heap_alloc_new _ _, Nat.le_refl _, by unfold maxLen; omega, rfl, rfl⟩⟩
section
variable {P : Program} {ops : Array Oper} {Q : Exit → Act → World → Prop} {md : Region.Mode} {S : World → Prop}
/-- Two operations may come up. -/
theorem wpAnyH_two (i j : Nat) {oi oj : Oper} {fuel : Nat} {listed : Array Bool} {a : Act} {w : World} (hr : Region.ready md ops listed = [i, j]) (hi : ops[i]? = some oi) (hj : ops[j]? = some oj)
    (h1 : ∀ K' : Act → World → Prop, Shut (∀ a w, S w → (S w → wpAnyH P md ops Q S fuel (listed.setIfInBounds i true) a w) → K' a w) → if Region.wanted oi (yielded ops a.tmps) = true then Oper.wp P oi a w K' Q else K' (a.put oi.dst undef) w)
    (h2 : ∀ K' : Act → World → Prop, Shut (∀ a w, S w → (S w → wpAnyH P md ops Q S fuel (listed.setIfInBounds j true) a w) → K' a w) → if Region.wanted oj (yielded ops a.tmps) = true then Oper.wp P oj a w K' Q else K' (a.put oj.dst undef) w) :
    wpAnyH P md ops Q S (fuel + 1) listed a w := by
  refine wpAnyH_all hr (by simp) (fun q hq => ?_)
  rcases (show q = i ∨ q = j by simpa using hq) with rfl | rfl
  · exact wpOp_step hi (fun K' hK => h1 K' (fun a w hS hW => hK a w ⟨hS, hW hS⟩))
  · exact wpOp_step hj (fun K' hK => h2 K' (fun a w hS hW => hK a w ⟨hS, hW hS⟩))
end
theorem build_en (h : Int) (tv : List Value) (hl : tv.length = 32) (w : World) : (Instr.build 29 #[(0, .int .i64 h), (1, .agg tv.toArray)]).run Tryd.prog w = .ok (.agg (Value.int .i64 h :: tv).toArray) w := by
  rcases tv with _ | ⟨a0, tv⟩
  · simp at hl
  rcases tv with _ | ⟨a1, tv⟩
  · simp at hl
  rcases tv with _ | ⟨a2, tv⟩
  · simp at hl
  rcases tv with _ | ⟨a3, tv⟩
  · simp at hl
  rcases tv with _ | ⟨a4, tv⟩
  · simp at hl
  rcases tv with _ | ⟨a5, tv⟩
  · simp at hl
  rcases tv with _ | ⟨a6, tv⟩
  · simp at hl
  rcases tv with _ | ⟨a7, tv⟩
  · simp at hl
  rcases tv with _ | ⟨a8, tv⟩
  · simp at hl
  rcases tv with _ | ⟨a9, tv⟩
  · simp at hl
  rcases tv with _ | ⟨a10, tv⟩
  · simp at hl
  rcases tv with _ | ⟨a11, tv⟩
  · simp at hl
  rcases tv with _ | ⟨a12, tv⟩
  · simp at hl
  rcases tv with _ | ⟨a13, tv⟩
  · simp at hl
  rcases tv with _ | ⟨a14, tv⟩
  · simp at hl
  rcases tv with _ | ⟨a15, tv⟩
  · simp at hl
  rcases tv with _ | ⟨a16, tv⟩
  · simp at hl
  rcases tv with _ | ⟨a17, tv⟩
  · simp at hl
  rcases tv with _ | ⟨a18, tv⟩
  · simp at hl
  rcases tv with _ | ⟨a19, tv⟩
  · simp at hl
  rcases tv with _ | ⟨a20, tv⟩
  · simp at hl
  rcases tv with _ | ⟨a21, tv⟩
  · simp at hl
  rcases tv with _ | ⟨a22, tv⟩
  · simp at hl
  rcases tv with _ | ⟨a23, tv⟩
  · simp at hl
  rcases tv with _ | ⟨a24, tv⟩
  · simp at hl
  rcases tv with _ | ⟨a25, tv⟩
  · simp at hl
  rcases tv with _ | ⟨a26, tv⟩
  · simp at hl
  rcases tv with _ | ⟨a27, tv⟩
  · simp at hl
  rcases tv with _ | ⟨a28, tv⟩
  · simp at hl
  rcases tv with _ | ⟨a29, tv⟩
  · simp at hl
  rcases tv with _ | ⟨a30, tv⟩
  · simp at hl
  rcases tv with _ | ⟨a31, tv⟩
  · simp at hl
  rcases tv with _ | ⟨az, tv⟩
  · kernel_rfl
  · simp at hl
theorem slice_en (ev : List Value) (hl : ev.length = 33) (w : World) : (Instr.buildSlice 22 1 #[(0, .agg ev.toArray)]).run Tryd.prog w = .ok (.slice (some ⟨w.heap.size, 0, none⟩) 1 1) (w.alloc (.cells ev.toArray 29)) := by
  rcases ev with _ | ⟨a0, ev⟩
  · simp at hl
  rcases ev with _ | ⟨a1, ev⟩
  · simp at hl
  rcases ev with _ | ⟨a2, ev⟩
  · simp at hl
  rcases ev with _ | ⟨a3, ev⟩
  · simp at hl
  rcases ev with _ | ⟨a4, ev⟩
  · simp at hl
  rcases ev with _ | ⟨a5, ev⟩
  · simp at hl
  rcases ev with _ | ⟨a6, ev⟩
  · simp at hl
  rcases ev with _ | ⟨a7, ev⟩
  · simp at hl
  rcases ev with _ | ⟨a8, ev⟩
  · simp at hl
  rcases ev with _ | ⟨a9, ev⟩
  · simp at hl
  rcases ev with _ | ⟨a10, ev⟩
  · simp at hl
  rcases ev with _ | ⟨a11, ev⟩
  · simp at hl
  rcases ev with _ | ⟨a12, ev⟩
  · simp at hl
  rcases ev with _ | ⟨a13, ev⟩
  · simp at hl
  rcases ev with _ | ⟨a14, ev⟩
  · simp at hl
  rcases ev with _ | ⟨a15, ev⟩
  · simp at hl
  rcases ev with _ | ⟨a16, ev⟩
  · simp at hl
  rcases ev with _ | ⟨a17, ev⟩
  · simp at hl
  rcases ev with _ | ⟨a18, ev⟩
  · simp at hl
  rcases ev with _ | ⟨a19, ev⟩
  · simp at hl
  rcases ev with _ | ⟨a20, ev⟩
  · simp at hl
  rcases ev with _ | ⟨a21, ev⟩
  · simp at hl
  rcases ev with _ | ⟨a22, ev⟩
  · simp at hl
  rcases ev with _ | ⟨a23, ev⟩
  · simp at hl
  rcases ev with _ | ⟨a24, ev⟩
  · simp at hl
  rcases ev with _ | ⟨a25, ev⟩
  · simp at hl
  rcases ev with _ | ⟨a26, ev⟩
  · simp at hl
  rcases ev with _ | ⟨a27, ev⟩
  · simp at hl
  rcases ev with _ | ⟨a28, ev⟩
  · simp at hl
  rcases ev with _ | ⟨a29, ev⟩
  · simp at hl
  rcases ev with _ | ⟨a30, ev⟩
  · simp at hl
  rcases ev with _ | ⟨a31, ev⟩
  · simp at hl
  rcases ev with _ | ⟨a32, ev⟩
  · simp at hl
  rcases ev with _ | ⟨az, ev⟩
  · kernel_rfl
  · simp at hl
/-- a new block that holds one entry -/
theorem rdE_one {w : World} {g : Nat} {x : En} (h : w.heap[g]? = some (.cells (enV x).toArray 29 (0, 0))) : RdE w (.slice (some ⟨g, 0, none⟩) 1 1) [x] := by
  have hr : RowV 29 g (enV x) w := h
  refine .inr ⟨_, g, 0, 1, rfl, Nat.le_refl _, fun _ => ⟨rfl, hr.lt⟩, fun j y hj u v hv => ?_⟩
  rcases j with _ | j
  · simp at hj
    subst hj
    rw [hr.cell, show 0 + 0 * 33 + u = u by omega]; exact hv
  · simp at hj
set_option maxRecDepth 100000 in
set_option maxHeartbeats 8000000 in
theorem right_t (v1 : Value) (l : List En) (a : Int) (w : World) (h1 : RdE w v1 l) (ol : EnsOk l) (hm1 : l.length ≤ maxLen) (a0 : 0 ≤ a) (a1 : a ≤ 255) (hk : KTab w) (hp : PTab w) :
    Calls Tryd.prog 5 #[v1, .int .u8 a] w fun e w' => e = .returned (.bool true) ∧ Below w.heap.size w w' := by
  obtain ⟨p1, cap1, rfl⟩ := h1.form
  unfold maxLen at hm1
  have H1 := Lib.hid h1; have O1 := Lib.hid ol
  have KW := Lib.hid (fun W (hb : Below w.heap.size w W) => works_c W (hk.call hb) (hp.call hb))
  have KR := Lib.hid (fun W v l (h : RdE W v l) (o : EnsOk l) (hl : l.length ≤ 100000) => right_c v l W h o hl)
  clear h1 ol hk hp
  by_cases hbig : 100 < l.length
  · have kw := KW.out w (Below.refl _ _)
    go_enter Tryd.func5, Tryd.ntmps5
    go_wp2_with (go_at_call 6; (with_reducible refine kw.mono ?_); rintro e w2 ⟨rfl, hb2⟩)
    go_ret
    exact ⟨rfl, hb2⟩
  have hl100 : l.length ≤ 100 := by omega
  by_cases hz : l.length = 0
  · have kw := KW.out w (Below.refl _ _)
    have hz2 : ((l.length : Int) == 0) = true := by simp [hz]
    go_enter Tryd.func5, Tryd.ntmps5
    go_wp2_with (go_at_call 6; (with_reducible refine kw.mono ?_); rintro e w2 ⟨rfl, hb2⟩)
    go_ret
    exact ⟨rfl, hb2⟩
  have hz2 : ((l.length : Int) == 0) = false := by rw [beq_eq_false_iff_ne]; omega
  have kr := KR.out w _ l H1.out O1.out (by omega)
  cases hrb : rgtB l with
  | false =>
    rw [hrb] at kr
    clear hrb
    go_enter Tryd.func5, Tryd.ntmps5
    go_wp2_with (first
      | (go_at_call 9; (with_reducible refine kr.mono ?_); rintro e w2 ⟨rfl, hb2⟩)
      | (go_at_call 6; (with_reducible refine (KW.out _ hb2).mono ?_); rintro e w3 ⟨rfl, hb3⟩))
    go_ret
    exact ⟨rfl, bel_call hb2 hb3⟩
  | true =>
    rw [hrb] at kr
    have HRG := Lib.hid ((rgtB_iff l).1 hrb)
    clear hrb
    obtain ⟨an, rfl⟩ := Int.eq_ofNat_of_zero_le a0
    have hkl : an % l.length < l.length := Nat.mod_lt _ (by omega)
    have hmod : (an : Int) % (l.length : Int) = ((an % l.length : Nat) : Int) := (Int.natCast_emod _ _).symm
    have hmod2 : (an : Int).tmod (l.length : Int) = ((an % l.length : Nat) : Int) := by rw [Int.tmod_eq_emod_of_nonneg (by omega)]; exact hmod
    obtain ⟨k, hk⟩ : ∃ k, an % l.length = k := ⟨_, rfl⟩
    rw [hk] at hkl hmod hmod2
    clear hk
    have hlpos : (0 : Int) < (l.length : Int) := by omega
    go_enter Tryd.func5, Tryd.ntmps5
    go_upto_region 4 with (go_at_call 9; (with_reducible refine kr.mono ?_); rintro e w2 ⟨rfl, hb2⟩)
    clear hmod hmod2 kr
    refine wp_gen (fun W => RdE W (.slice p1 l.length cap1) l ∧ Below w.heap.size w W) ⟨H1.out.keep hb2, hb2⟩ ?_
    clear hb2
    rintro W ⟨hR, hBW⟩
    obtain ⟨g, o, cap, hform, hcap, hg, hcell⟩ := hR.some (by omega)
    injection hform with hf1 _ hf2
    subst hf1; subst hf2
    have k0 : (0 : Int) ≤ (k : Int) := by omega
    have k1 : (k : Int) < (l.length : Int) := by omega
    have kc : (k : Int) ≤ (cap1 : Int) := by omega
    have HL := Lib.hid (fun U (hb : Below W.drew.heap.size W.drew U) => (rdE_part hcell hg 0 k cap1 (by omega) (by omega)).keep ((below_drewN W 1).trans hb))
    have HOL := Lib.hid (show EnsOk ((l.drop 0).take k) from fun x hx => O1.out x (by simpa using List.mem_of_mem_take hx))
    have HON := Lib.hid (show EnsOk (l.drop (k + 1)) from fun x hx => O1.out x (List.mem_of_mem_drop hx))
    have hsl : ∃ pa : Option Addr, (if cap1 = k + 1 then some (⟨g, o, none⟩ : Addr) else some ⟨g, o + (k + 1) * 33, none⟩) = pa ∧ RdE W (.slice pa (l.length - (k + 1)) (cap1 - (k + 1))) (l.drop (k + 1)) := by
      refine ⟨_, rfl, ?_⟩
      by_cases hcc : cap1 = k + 1
      · have e0 : l.length - (k + 1) = 0 := by omega
        have e1 : l.drop (k + 1) = [] := List.drop_of_length_le (by omega)
        rw [if_pos hcc, e0, e1]
        exact rdE_nil _ _
      · have e1 : (l.drop (k + 1)).take (l.length - (k + 1)) = l.drop (k + 1) := List.take_of_length_le (by simp)
        rw [if_neg hcc, ← e1]
        have := rdE_part hcell hg (k + 1) (l.length - (k + 1)) (cap1 - (k + 1)) (by omega) (by omega)
        rw [e1] at this ⊢
        exact this
    obtain ⟨pa, hpa, hrs⟩ := hsl
    have ec : IntKind.i64.wrap ((k : Int) + 1) = ((k + 1 : Nat) : Int) := by rw [IntKind.wrap_i64]; omega
    have kc2 : (0 : Int) ≤ (k : Int) + 1 := by clear ec; omega
    have kc3 : (k : Int) + 1 ≤ (l.length : Int) := by clear ec; omega
    have HN := Lib.hid (fun U (hb : Below W.drew.heap.size W.drew U) => hrs.keep ((below_drewN W 1).trans hb))
    have HLL := Lib.hid (show ((l.drop 0).take k).length ≤ 100 ∧ (l.drop (k + 1)).length ≤ 100 from ⟨by simp; omega, by simp; omega⟩)
    refine wp_region_noPanic ?_
    refine wp_region_held_drew (S := (fun _ => True)) (by kernel_rfl) (trivial) (fun hHeld => ?_)
    refine wpAnyH_take (i := 1) (oi := ?_) (v := ?_) ?_ (by kernel_rfl) (by kernel_rfl) (by kernel_rfl) ?_ (Or.inl ⟨?_, ?_⟩) (by assumption) ?_
    rotate_left 2
    · simp only [List.getElem?_toArray, List.getElem?_cons_succ, List.getElem?_cons_zero]; rfl
    · exact fun _ _ _ h => h
    · rfl
    · (intro w hSw; (try dsimp only at hSw); go_simp) <;> with_reducible rfl
    try simp only [Act.put, List.setIfInBounds_toArray, List.set_cons_zero, List.set_cons_succ]
    refine wpAnyH_take (i := 2) (oi := ?_) (v := ?_) ?_ (by kernel_rfl) (by kernel_rfl) (by kernel_rfl) ?_ (Or.inl ⟨?_, ?_⟩) (by assumption) ?_
    rotate_left 2
    · simp only [List.getElem?_toArray, List.getElem?_cons_succ, List.getElem?_cons_zero]; rfl
    · exact fun _ _ _ h => h
    · rfl
    · (intro w hSw; (try dsimp only at hSw); go_simp) <;> with_reducible rfl
    try simp only [Act.put, List.setIfInBounds_toArray, List.set_cons_zero, List.set_cons_succ]
    refine wpAnyH_take (i := 3) (oi := ?_) (v := ?_) ?_ (by kernel_rfl) (by kernel_rfl) (by kernel_rfl) ?_ (Or.inl ⟨?_, ?_⟩) (by assumption) ?_
    rotate_left 2
    · simp only [List.getElem?_toArray, List.getElem?_cons_succ, List.getElem?_cons_zero]; rfl
    · exact fun _ _ _ h => h
    · rfl
    · (intro w hSw; (try dsimp only at hSw); go_simp) <;> with_reducible rfl
    try simp only [Act.put, List.setIfInBounds_toArray, List.set_cons_zero, List.set_cons_succ]
    refine wpAnyH_take (i := 5) (oi := ?_) (v := ?_) ?_ (by kernel_rfl) (by kernel_rfl) (by kernel_rfl) ?_ (Or.inl ⟨?_, ?_⟩) (by assumption) ?_
    rotate_left 2
    · simp only [List.getElem?_toArray, List.getElem?_cons_succ, List.getElem?_cons_zero]; rfl
    · exact fun _ _ _ h => h
    · rfl
    · (intro w hSw; (try dsimp only at hSw); go_simp) <;> with_reducible rfl
    try simp only [Act.put, List.setIfInBounds_toArray, List.set_cons_zero, List.set_cons_succ]
    refine wpAnyH_take (i := 6) (oi := ?_) (v := ?_) ?_ (by kernel_rfl) (by kernel_rfl) (by kernel_rfl) ?_ (Or.inl ⟨?_, ?_⟩) (by assumption) ?_
    rotate_left 2
    · simp only [List.getElem?_toArray, List.getElem?_cons_succ, List.getElem?_cons_zero]; rfl
    · exact fun _ _ _ h => h
    · rfl
    · (intro w hSw; (try dsimp only at hSw); go_simp) <;> with_reducible rfl
    try simp only [Act.put, List.setIfInBounds_toArray, List.set_cons_zero, List.set_cons_succ]
    refine wpAnyH_take (i := 7) (oi := ?_) (v := ?_) ?_ (by kernel_rfl) (by kernel_rfl) (by kernel_rfl) ?_ (Or.inl ⟨?_, ?_⟩) (by assumption) ?_
    rotate_left 2
    · simp only [List.getElem?_toArray, List.getElem?_cons_succ, List.getElem?_cons_zero]; rfl
    · exact fun _ _ _ h => h
    · rfl
    · (intro w hSw; (try dsimp only at hSw); go_simp) <;> with_reducible rfl
    try simp only [Act.put, List.setIfInBounds_toArray, List.set_cons_zero, List.set_cons_succ]
    refine wpAnyH_take (i := 8) (oi := ?_) (v := ?_) ?_ (by kernel_rfl) (by kernel_rfl) (by kernel_rfl) ?_ (Or.inl ⟨?_, ?_⟩) (by assumption) ?_
    rotate_left 2
    · simp only [List.getElem?_toArray, List.getElem?_cons_succ, List.getElem?_cons_zero]; rfl
    · exact fun _ _ _ h => h
    · rfl
    · (intro w hSw; (try dsimp only at hSw); go_simp) <;> with_reducible rfl
    try simp only [Act.put, List.setIfInBounds_toArray, List.set_cons_zero, List.set_cons_succ]
    refine wpAnyH_one 0 (o := ?_) (by kernel_rfl) ?_ (fun K hK => ?_)
    rotate_left 1
    · simp only [List.getElem?_toArray, List.getElem?_cons_zero]; rfl
    rw [if_pos (by rfl)]
    refine wp_exec_slice 22 _ _ rfl (slice_0 _) (by simp) ?_
    have hO := ownsE_nil W.drew
    have hB := bel_alloc (Below.refl _ W.drew) (.cells #[] 29)
    have hL := HL.out _ hB
    have hN := HN.out _ hB
    refine hK.out _ _ (trivial) (fun hH => ?_)
    clear hHeld; have hHeld := hH; clear hH hK K
    try simp only [Act.put, List.setIfInBounds_toArray, List.set_cons_zero, List.set_cons_succ]
    refine wpAnyH_one 4 (o := ?_) (by kernel_rfl) ?_ (fun K hK => ?_)
    rotate_left 1
    · simp only [List.getElem?_toArray, List.getElem?_cons_succ, List.getElem?_cons_zero]; rfl
    rw [if_pos (by rfl)]
    refine wp_append_en _ _ rfl W.drew.heap.size hB.size _ [] rfl hO _ _ rfl hL HOL.out (by simp; omega) ?_
    intro v1 w1 ho1 hg1
    have hB1 := grown_belowE hO hB hB.size hg1
    have hN1 := HN.out _ hB1
    clear hg1
    refine hK.out _ _ (trivial) (fun hH => ?_)
    clear hHeld; have hHeld := hH; clear hH hK K
    try simp only [Act.put, List.setIfInBounds_toArray, List.set_cons_zero, List.set_cons_succ]
    refine wpAnyH_one 9 (o := ?_) (by kernel_rfl) ?_ (fun K hK => ?_)
    rotate_left 1
    · simp only [List.getElem?_toArray, List.getElem?_cons_succ, List.getElem?_cons_zero]; rfl
    rw [if_pos (by rfl)]
    refine wp_append_en _ _ rfl W.drew.heap.size hB1.size _ _ rfl ho1 _ _ rfl hN1 HON.out (by simp; omega) ?_
    intro v2 w2 ho2 hg2
    have hB2 := grown_belowE ho1 hB1 hB1.size hg2
    clear hg2
    refine hK.out _ _ (trivial) (fun hH => ?_)
    clear hHeld; have hHeld := hH; clear hH hK K
    try simp only [Act.put, List.setIfInBounds_toArray, List.set_cons_zero, List.set_cons_succ]
    refine wpAnyH_take (i := 10) (oi := ?_) (v := ?_) ?_ (by kernel_rfl) (by kernel_rfl) (by kernel_rfl) ?_ (Or.inl ⟨?_, ?_⟩) (by assumption) ?_
    rotate_left 2
    · simp only [List.getElem?_toArray, List.getElem?_cons_succ, List.getElem?_cons_zero]; rfl
    · exact fun _ _ _ h => h
    · rfl
    · (intro w hSw; (try dsimp only at hSw); go_simp) <;> with_reducible rfl
    try simp only [Act.put, List.setIfInBounds_toArray, List.set_cons_zero, List.set_cons_succ]
    refine wpAnyH_done (by kernel_rfl) ?_ _
    refine NoPanic.normal ?_
    try simp only [Act.put, List.setIfInBounds_toArray, List.set_cons_zero, List.set_cons_succ]
    have hless : ([] ++ (l.drop 0).take k) ++ l.drop (k + 1) = l.take k ++ l.drop (k + 1) := by simp
    have oless : EnsOk (l.take k ++ l.drop (k + 1)) := fun x hx => by
      rcases List.mem_append.1 hx with h | h
      · exact O1.out x (List.mem_of_mem_take h)
      · exact O1.out x (List.mem_of_mem_drop h)
    rw [hless] at ho2
    have hr2 := rdE_own oless ho2
    have hb2w : Below W.heap.size W w2 := (below_drewN W 1).trans hB2
    go_upto_region 5 with fail
    refine wp_gen (fun U => RdE U v2 (l.take k ++ l.drop (k + 1)) ∧ RdE U (.slice (some ⟨g, o, none⟩) l.length cap1) l ∧ Below w.heap.size w U) ⟨hr2, hR.keep hb2w, bel_call hBW hb2w⟩ ?_
    clear hless ho1 ho2 hr2 hb2w hB hB1 hB2 hL hN hN1 hO HL HN HOL HON HLL hrs hR hcell hBW kc kc2 kc3 ec hpa hg
    rintro W5 ⟨hless, hR, hBW⟩
    obtain ⟨g', o', cap', hform, hcap2, hg, hcell⟩ := hR.some (by omega)
    injection hform with hf1 _ hf2
    injection hf1 with hf1
    injection hf1 with hf3 hf4 _
    subst hf2; subst hf3; subst hf4
    obtain ⟨x, hx⟩ : ∃ x, l[k]? = some x := ⟨_, List.getElem?_eq_getElem hkl⟩
    obtain ⟨z, hz⟩ : ∃ z, l[l.length - 1]? = some z := ⟨_, List.getElem?_eq_getElem (by omega)⟩
    have ox : x.Ok := O1.out x (List.mem_of_getElem? hx)
    have oz : z.Ok := O1.out z (List.mem_of_getElem? hz)
    have oy : En.Ok ⟨z.h, x.t⟩ := ⟨oz.lo, oz.hi, ox.l, ox.b⟩
    have oys : EnsOk [⟨z.h, x.t⟩] := fun q hq => by rw [List.mem_singleton.1 hq]; exact oy
    have omore : EnsOk (l ++ [⟨z.h, x.t⟩]) := fun q hq => by
      rcases List.mem_append.1 hq with h | h
      · exact O1.out q h
      · exact oys q h
    have hmore : rgtB (l ++ [⟨z.h, x.t⟩]) = false := rgtB_no _ (rgt_more l x ⟨z.h, x.t⟩ (List.mem_of_getElem? hx) rfl)
    have hlessr : rgtB (l.take k ++ l.drop (k + 1)) = true := (rgtB_iff _).2 (rgt_less l k HRG.out)
    have c9 : W5.drew.cell? ⟨g, o + (l.length - 1) * 33, none⟩ = some (.int .i64 z.h) := hcell _ z hz 0 _ rfl
    have cr : W5.drew.rangeAt g (o + k * 33 + 1) (x.t.map (Value.int .u8)) := fun j v hv => by
      have := hcell k x hx (j + 1) v (by simpa [enV] using hv)
      rwa [show o + k * 33 + 1 + j = o + k * 33 + (j + 1) by omega]
    have hbld := fun W => build_en z.h (x.t.map (Value.int .u8)) (by simp [ox.l]) W
    have hsl := fun W => slice_en (enV ⟨z.h, x.t⟩) (enV_len _ oy) W
    have hone := fun (W : World) (g : Nat) (h : W.heap[g]? = some (.cells (enV ⟨z.h, x.t⟩).toArray 29 (0, 0))) => rdE_one h
    have hiH := info27 (x.t.map (Value.int .u8)).length (by simp [ox.l])
    have hu := u_hash
    rw [show (Value.int .i64 z.h :: x.t.map (Value.int .u8)) = enV ⟨z.h, x.t⟩ from rfl] at hbld
    have HS := Lib.hid (fun U (hb : Below W5.drew.heap.size W5.drew U) => (And.intro (by rw [hb.cell (p := ⟨g, _, none⟩) hg]; exact c9) (range_call' cr hg hb) : U.cell? ⟨g, o + (l.length - 1) * 33, none⟩ = some (.int .i64 z.h) ∧ U.rangeAt g (o + k * 33 + 1) (x.t.map (Value.int .u8))))
    have HLR := Lib.hid (fun U (hb : Below W5.drew.heap.size W5.drew U) => hR.keep ((below_drewN W5 1).trans hb))
    have KL := Lib.hid (fun U (hb : Below W5.drew.heap.size W5.drew U) => KR.out U _ _ (hless.keep ((below_drewN W5 1).trans hb)) oless (by simp; omega))
    have KM := Lib.hid (fun U v (h : RdE U v (l ++ [⟨z.h, x.t⟩])) => KR.out U v _ h omore (by simp; omega))
    have HBW := Lib.hid (fun U (hb : Below W5.drew.heap.size W5.drew U) => bel_call hBW ((below_drewN W5 1).trans hb))
    rw [hlessr] at KL
    rw [hmore] at KM
    have HON := Lib.hid (And.intro oys omore)
    have e1 : IntKind.i64.wrap ((l.length : Int) - 1) = ((l.length - 1 : Nat) : Int) := by rw [IntKind.wrap_i64]; omega
    have i1 : (0 : Int) ≤ ((l.length - 1 : Nat) : Int) := by clear e1; omega
    have i2 : ((l.length - 1 : Nat) : Int) < (l.length : Int) := by clear e1; omega
    have hacc := Below.refl W5.drew.heap.size W5.drew
    clear hlessr hmore c9 cr hcell hx hz ox oz oy oys omore oless hless hR hBW hg
    generalize x.t.map (Value.int .u8) = tv at *
    generalize (⟨z.h, x.t⟩ : En) = y at *
    generalize z.h = yh at *
    refine wp_region_noPanic ?_
    refine wp_region_held_drew (S := (fun w' => w'.cell? ⟨g, o + (l.length - 1) * 33, none⟩ = some (.int .i64 yh) ∧ w'.rangeAt g (o + k * 33 + 1) tv)) (by kernel_rfl) (HS.out _ hacc) (fun hHeld => ?_)
    refine wpAnyH_take (i := 1) (oi := ?_) (v := ?_) ?_ (by kernel_rfl) (by kernel_rfl) (by kernel_rfl) ?_ (Or.inl ⟨?_, ?_⟩) (by assumption) ?_
    rotate_left 2
    · simp only [List.getElem?_toArray, List.getElem?_cons_succ, List.getElem?_cons_zero]; rfl
    · exact fun _ _ _ h => h
    · rfl
    · (intro w hSw; (try dsimp only at hSw); go_simp) <;> with_reducible rfl
    try simp only [Act.put, List.setIfInBounds_toArray, List.set_cons_zero, List.set_cons_succ]
    refine wpAnyH_take (i := 3) (oi := ?_) (v := ?_) ?_ (by kernel_rfl) (by kernel_rfl) (by kernel_rfl) ?_ (Or.inl ⟨?_, ?_⟩) (by assumption) ?_
    rotate_left 2
    · simp only [List.getElem?_toArray, List.getElem?_cons_succ, List.getElem?_cons_zero]; rfl
    · exact fun _ _ _ h => h
    · rfl
    · (intro w hSw; (try dsimp only at hSw); go_simp) <;> with_reducible rfl
    try simp only [Act.put, List.setIfInBounds_toArray, List.set_cons_zero, List.set_cons_succ]
    refine wpAnyH_take (i := 4) (oi := ?_) (v := ?_) ?_ (by kernel_rfl) (by kernel_rfl) (by kernel_rfl) ?_ (Or.inl ⟨?_, ?_⟩) (by assumption) ?_
    rotate_left 2
    · simp only [List.getElem?_toArray, List.getElem?_cons_succ, List.getElem?_cons_zero]; rfl
    · exact fun _ _ _ h => h
    · rfl
    · (intro w hSw; (try dsimp only at hSw); go_simp) <;> with_reducible rfl
    try simp only [Act.put, List.setIfInBounds_toArray, List.set_cons_zero, List.set_cons_succ]
    refine wpAnyH_take (i := 5) (oi := ?_) (v := ?_) ?_ (by kernel_rfl) (by kernel_rfl) (by kernel_rfl) ?_ (Or.inl ⟨?_, ?_⟩) (by assumption) ?_
    rotate_left 2
    · simp only [List.getElem?_toArray, List.getElem?_cons_succ, List.getElem?_cons_zero]; rfl
    · exact fun _ _ _ h => h
    · rfl
    · (intro w hSw; (try dsimp only at hSw); go_simp) <;> with_reducible rfl
    try simp only [Act.put, List.setIfInBounds_toArray, List.set_cons_zero, List.set_cons_succ]
    refine wpAnyH_take (i := 6) (oi := ?_) (v := ?_) ?_ (by kernel_rfl) (by kernel_rfl) (by kernel_rfl) ?_ (Or.inl ⟨?_, ?_⟩) (by assumption) ?_
    rotate_left 2
    · simp only [List.getElem?_toArray, List.getElem?_cons_succ, List.getElem?_cons_zero]; rfl
    · exact fun _ _ _ h => h
    · rfl
    · (intro w hSw; (try dsimp only at hSw); go_simp) <;> with_reducible rfl
    try simp only [Act.put, List.setIfInBounds_toArray, List.set_cons_zero, List.set_cons_succ]
    refine wpAnyH_take (i := 7) (oi := ?_) (v := ?_) ?_ (by kernel_rfl) (by kernel_rfl) (by kernel_rfl) ?_ (Or.inl ⟨?_, ?_⟩) (by assumption) ?_
    rotate_left 2
    · simp only [List.getElem?_toArray, List.getElem?_cons_succ, List.getElem?_cons_zero]; rfl
    · exact fun _ _ _ h => h
    · rfl
    · (intro w hSw; (try dsimp only at hSw); go_simp) <;> with_reducible rfl
    try simp only [Act.put, List.setIfInBounds_toArray, List.set_cons_zero, List.set_cons_succ]
    refine wpAnyH_take (i := 8) (oi := ?_) (v := ?_) ?_ (by kernel_rfl) (by kernel_rfl) (by kernel_rfl) ?_ (Or.inl ⟨?_, ?_⟩) (by assumption) ?_
    rotate_left 2
    · simp only [List.getElem?_toArray, List.getElem?_cons_succ, List.getElem?_cons_zero]; rfl
    · exact fun _ _ _ h => h
    · rfl
    · (intro w hSw; (try dsimp only at hSw); go_simp) <;> with_reducible rfl
    try simp only [Act.put, List.setIfInBounds_toArray, List.set_cons_zero, List.set_cons_succ]
    refine wpAnyH_take (i := 9) (oi := ?_) (v := ?_) ?_ (by kernel_rfl) (by kernel_rfl) (by kernel_rfl) ?_ (Or.inl ⟨?_, ?_⟩) (by assumption) ?_
    rotate_left 2
    · simp only [List.getElem?_toArray, List.getElem?_cons_succ, List.getElem?_cons_zero]; rfl
    · exact fun _ _ _ h => h
    · rfl
    · (intro w hSw; (try dsimp only at hSw); go_simp) <;> with_reducible rfl
    try simp only [Act.put, List.setIfInBounds_toArray, List.set_cons_zero, List.set_cons_succ]
    refine wpAnyH_take (i := 10) (oi := ?_) (v := ?_) ?_ (by kernel_rfl) (by kernel_rfl) (by kernel_rfl) ?_ (Or.inl ⟨?_, ?_⟩) (by assumption) ?_
    rotate_left 2
    · simp only [List.getElem?_toArray, List.getElem?_cons_succ, List.getElem?_cons_zero]; rfl
    · exact fun _ _ _ h => h
    · rfl
    · (intro w hSw; (try dsimp only at hSw); go_simp) <;> with_reducible rfl
    try simp only [Act.put, List.setIfInBounds_toArray, List.set_cons_zero, List.set_cons_succ]
    refine wpAnyH_take (i := 11) (oi := ?_) (v := ?_) ?_ (by kernel_rfl) (by kernel_rfl) (by kernel_rfl) ?_ (Or.inl ⟨?_, ?_⟩) (by assumption) ?_
    rotate_left 2
    · simp only [List.getElem?_toArray, List.getElem?_cons_succ, List.getElem?_cons_zero]; rfl
    · exact fun _ _ _ h => h
    · rfl
    · (intro w hSw; (try dsimp only at hSw); go_simp) <;> with_reducible rfl
    try simp only [Act.put, List.setIfInBounds_toArray, List.set_cons_zero, List.set_cons_succ]
    refine wpAnyH_take (i := 12) (oi := ?_) (v := ?_) ?_ (by kernel_rfl) (by kernel_rfl) (by kernel_rfl) ?_ (Or.inl ⟨?_, ?_⟩) (by assumption) ?_
    rotate_left 2
    · simp only [List.getElem?_toArray, List.getElem?_cons_succ, List.getElem?_cons_zero]; rfl
    · exact fun _ _ _ h => h
    · rfl
    · (intro w hSw; (try dsimp only at hSw); go_simp) <;> with_reducible rfl
    try simp only [Act.put, List.setIfInBounds_toArray, List.set_cons_zero, List.set_cons_succ]
    refine wpAnyH_take (i := 13) (oi := ?_) (v := ?_) ?_ (by kernel_rfl) (by kernel_rfl) (by kernel_rfl) ?_ (Or.inl ⟨?_, ?_⟩) (by assumption) ?_
    rotate_left 2
    · simp only [List.getElem?_toArray, List.getElem?_cons_succ, List.getElem?_cons_zero]; rfl
    · exact fun _ _ _ h => h
    · rfl
    · (intro w hSw; (try dsimp only at hSw); go_simp) <;> with_reducible rfl
    try simp only [Act.put, List.setIfInBounds_toArray, List.set_cons_zero, List.set_cons_succ]
    refine wpAnyH_take (i := 14) (oi := ?_) (v := .agg tv.toArray) ?_ (by kernel_rfl) (by kernel_rfl) (by kernel_rfl) ?_ (yieldsIf_load_mid ?_ 27 (.tmp 50) ?_ g (o + k * 33 + 1) ?_ _ _ ?_ hu rfl hiH) (by assumption) ?_
    rotate_left 1
    · simp only [List.getElem?_toArray, List.getElem?_cons_succ, List.getElem?_cons_zero]; rfl
    · exact fun _ _ _ h => h
    · rfl
    · rfl
    · rfl
    · exact (fun _ h => And.right h)
    try simp only [Act.put, List.setIfInBounds_toArray, List.set_cons_zero, List.set_cons_succ]
    refine wpAnyH_take (i := 15) (oi := ?_) (v := .agg (enV y).toArray) ?_ (by kernel_rfl) (by kernel_rfl) (by kernel_rfl) ?_ (Or.inl ⟨?_, ?_⟩) (by assumption) ?_
    rotate_left 1
    · simp only [List.getElem?_toArray, List.getElem?_cons_succ, List.getElem?_cons_zero]; rfl
    · exact fun _ _ _ h => h
    · rfl
    · (intro w hSw; exact run_exec_build 29 _ rfl (hbld w) (by simp [Act.eval]))
    try simp only [Act.put, List.setIfInBounds_toArray, List.set_cons_zero, List.set_cons_succ]
    refine wpAnyH_two 0 16 (oi := ?_) (oj := ?_) (by kernel_rfl) ?_ ?_ (fun K hK => ?_) (fun K hK => ?_)
    rotate_left 2
    · simp only [List.getElem?_toArray, List.getElem?_cons_zero]; rfl
    · simp only [List.getElem?_toArray, List.getElem?_cons_succ, List.getElem?_cons_zero]; rfl
    · rw [if_pos (by rfl)]
      refine wp_exec_slice 22 _ _ rfl (slice_0 _) (by simp) ?_
      have hO := ownsE_nil' (W5.drew) W5.drew.heap.size hacc.size
      have hacc := bel_alloc hacc (.cells #[] 29)
      refine hK.out _ _ (HS.out _ hacc) (fun hH => ?_)
      clear hHeld; have hHeld := hH; clear hH hK K
      try simp only [Act.put, List.setIfInBounds_toArray, List.set_cons_zero, List.set_cons_succ]
      refine wpAnyH_two 2 16 (oi := ?_) (oj := ?_) (by kernel_rfl) ?_ ?_ (fun K hK => ?_) (fun K hK => ?_)
      rotate_left 2
      · simp only [List.getElem?_toArray, List.getElem?_cons_succ, List.getElem?_cons_zero]; rfl
      · simp only [List.getElem?_toArray, List.getElem?_cons_succ, List.getElem?_cons_zero]; rfl
      · rw [if_pos (by rfl)]
        refine wp_append_en _ _ rfl W5.drew.heap.size hacc.size (.slice (some ⟨W5.drew.heap.size, 0, none⟩) 0 0) [] rfl hO _ _ rfl (HLR.out _ hacc) O1.out (by simp; omega) ?_
        intro v1' w1' ho1 hg1
        have hacc := grown_belowE hO hacc hacc.size hg1
        refine hK.out _ _ (HS.out _ hacc) (fun hH => ?_)
        clear hHeld; have hHeld := hH; clear hH hK K
        try simp only [Act.put, List.setIfInBounds_toArray, List.set_cons_zero, List.set_cons_succ]
        refine wpAnyH_one 16 (o := ?_) (by kernel_rfl) ?_ (fun K hK => ?_)
        rotate_left 1
        · simp only [List.getElem?_toArray, List.getElem?_cons_succ, List.getElem?_cons_zero]; rfl
        rw [if_pos (by rfl)]
        refine wp_exec_slice 22 _ _ rfl (hsl _) (by simp [Act.eval]) ?_
        have hY := heap_alloc_new (w1') (.cells (enV y).toArray 29)
        have hacc := bel_alloc hacc (.cells (enV y).toArray 29)
        have ho1 := ownsRow_alloc ho1 (.cells (enV y).toArray 29)
        refine hK.out _ _ (HS.out _ hacc) (fun hH => ?_)
        clear hHeld; have hHeld := hH; clear hH hK K
        try simp only [Act.put, List.setIfInBounds_toArray, List.set_cons_zero, List.set_cons_succ]
        refine wpAnyH_one 17 (o := ?_) (by kernel_rfl) ?_ (fun K hK => ?_)
        rotate_left 1
        · simp only [List.getElem?_toArray, List.getElem?_cons_succ, List.getElem?_cons_zero]; rfl
        rw [if_pos (by rfl)]
        refine wp_append_en _ _ rfl W5.drew.heap.size hacc.size _ _ rfl ho1 _ _ rfl (hone _ _ hY) HON.out.1 (by simp; omega) ?_
        intro v2' w2' ho2 hg2
        have hacc := grown_belowE ho1 hacc hacc.size hg2
        refine hK.out _ _ (HS.out _ hacc) (fun hH => ?_)
        clear hHeld; have hHeld := hH; clear hH hK K
        try simp only [Act.put, List.setIfInBounds_toArray, List.set_cons_zero, List.set_cons_succ]
        refine wpAnyH_take (i := 18) (oi := ?_) (v := ?_) ?_ (by kernel_rfl) (by kernel_rfl) (by kernel_rfl) ?_ (Or.inl ⟨?_, ?_⟩) (by assumption) ?_
        rotate_left 2
        · simp only [List.getElem?_toArray, List.getElem?_cons_succ, List.getElem?_cons_zero]; rfl
        · exact fun _ _ _ h => h
        · rfl
        · (intro w hSw; (try dsimp only at hSw); go_simp) <;> with_reducible rfl
        try simp only [Act.put, List.setIfInBounds_toArray, List.set_cons_zero, List.set_cons_succ]
        refine wpAnyH_done (by kernel_rfl) ?_ _
        refine NoPanic.normal ?_
        try simp only [Act.put, List.setIfInBounds_toArray, List.set_cons_zero, List.set_cons_succ]
        rw [List.nil_append] at ho2
        have hr3 := rdE_own HON.out.2 ho2
        go_wp2_with (first
          | (go_at_call 9; (with_reducible refine (KL.out _ hacc).mono ?_); rintro e w7 ⟨rfl, hb7⟩; have hr3 := hr3.keep hb7; have hacc := bel_call hacc hb7)
          | (go_at_call 9; (with_reducible refine (KM.out _ _ hr3).mono ?_); rintro e w8 ⟨rfl, hb8⟩; have hacc := bel_call hacc hb8)
          | (go_at_call 6; (with_reducible refine (KW.out _ (HBW.out _ hacc)).mono ?_); rintro e w9 ⟨rfl, hb9⟩; have hacc := bel_call hacc hb9))
        go_ret
        exact ⟨rfl, HBW.out _ hacc⟩
      · rw [if_pos (by rfl)]
        refine wp_exec_slice 22 _ _ rfl (hsl _) (by simp [Act.eval]) ?_
        have hY := heap_alloc_new ((W5.drew).alloc (.cells #[] 29)) (.cells (enV y).toArray 29)
        have hacc := bel_alloc hacc (.cells (enV y).toArray 29)
        have hO := ownsRow_alloc hO (.cells (enV y).toArray 29)
        refine hK.out _ _ (HS.out _ hacc) (fun hH => ?_)
        clear hHeld; have hHeld := hH; clear hH hK K
        try simp only [Act.put, List.setIfInBounds_toArray, List.set_cons_zero, List.set_cons_succ]
        refine wpAnyH_one 2 (o := ?_) (by kernel_rfl) ?_ (fun K hK => ?_)
        rotate_left 1
        · simp only [List.getElem?_toArray, List.getElem?_cons_succ, List.getElem?_cons_zero]; rfl
        rw [if_pos (by rfl)]
        refine wp_append_en _ _ rfl W5.drew.heap.size hacc.size (.slice (some ⟨W5.drew.heap.size, 0, none⟩) 0 0) [] rfl hO _ _ rfl (HLR.out _ hacc) O1.out (by simp; omega) ?_
        intro v1' w1' ho1 hg1
        have hacc := grown_belowE hO hacc hacc.size hg1
        have hY : w1'.heap[((W5.drew).alloc (.cells #[] 29)).heap.size]? = _ := (hg1.block _ (by simp) (fun e => by simp [Value.ownBlock] at e)).trans hY
        refine hK.out _ _ (HS.out _ hacc) (fun hH => ?_)
        clear hHeld; have hHeld := hH; clear hH hK K
        try simp only [Act.put, List.setIfInBounds_toArray, List.set_cons_zero, List.set_cons_succ]
        refine wpAnyH_one 17 (o := ?_) (by kernel_rfl) ?_ (fun K hK => ?_)
        rotate_left 1
        · simp only [List.getElem?_toArray, List.getElem?_cons_succ, List.getElem?_cons_zero]; rfl
        rw [if_pos (by rfl)]
        refine wp_append_en _ _ rfl W5.drew.heap.size hacc.size _ _ rfl ho1 _ _ rfl (hone _ _ hY) HON.out.1 (by simp; omega) ?_
        intro v2' w2' ho2 hg2
        have hacc := grown_belowE ho1 hacc hacc.size hg2
        refine hK.out _ _ (HS.out _ hacc) (fun hH => ?_)
        clear hHeld; have hHeld := hH; clear hH hK K
        try simp only [Act.put, List.setIfInBounds_toArray, List.set_cons_zero, List.set_cons_succ]
        refine wpAnyH_take (i := 18) (oi := ?_) (v := ?_) ?_ (by kernel_rfl) (by kernel_rfl) (by kernel_rfl) ?_ (Or.inl ⟨?_, ?_⟩) (by assumption) ?_
        rotate_left 2
        · simp only [List.getElem?_toArray, List.getElem?_cons_succ, List.getElem?_cons_zero]; rfl
        · exact fun _ _ _ h => h
        · rfl
        · (intro w hSw; (try dsimp only at hSw); go_simp) <;> with_reducible rfl
        try simp only [Act.put, List.setIfInBounds_toArray, List.set_cons_zero, List.set_cons_succ]
        refine wpAnyH_done (by kernel_rfl) ?_ _
        refine NoPanic.normal ?_
        try simp only [Act.put, List.setIfInBounds_toArray, List.set_cons_zero, List.set_cons_succ]
        rw [List.nil_append] at ho2
        have hr3 := rdE_own HON.out.2 ho2
        go_wp2_with (first
          | (go_at_call 9; (with_reducible refine (KL.out _ hacc).mono ?_); rintro e w7 ⟨rfl, hb7⟩; have hr3 := hr3.keep hb7; have hacc := bel_call hacc hb7)
          | (go_at_call 9; (with_reducible refine (KM.out _ _ hr3).mono ?_); rintro e w8 ⟨rfl, hb8⟩; have hacc := bel_call hacc hb8)
          | (go_at_call 6; (with_reducible refine (KW.out _ (HBW.out _ hacc)).mono ?_); rintro e w9 ⟨rfl, hb9⟩; have hacc := bel_call hacc hb9))
        go_ret
        exact ⟨rfl, HBW.out _ hacc⟩
    · rw [if_pos (by rfl)]
      refine wp_exec_slice 22 _ _ rfl (hsl _) (by simp [Act.eval]) ?_
      have hY := heap_alloc_new (W5.drew) (.cells (enV y).toArray 29)
      have hacc := bel_alloc hacc (.cells (enV y).toArray 29)
      refine hK.out _ _ (HS.out _ hacc) (fun hH => ?_)
      clear hHeld; have hHeld := hH; clear hH hK K
      try simp only [Act.put, List.setIfInBounds_toArray, List.set_cons_zero, List.set_cons_succ]
      refine wpAnyH_one 0 (o := ?_) (by kernel_rfl) ?_ (fun K hK => ?_)
      rotate_left 1
      · simp only [List.getElem?_toArray, List.getElem?_cons_zero]; rfl
      rw [if_pos (by rfl)]
      refine wp_exec_slice 22 _ _ rfl (slice_0 _) (by simp) ?_
      have hO := ownsE_nil' ((W5.drew).alloc (.cells (enV y).toArray 29)) W5.drew.heap.size hacc.size
      have hacc := bel_alloc hacc (.cells #[] 29)
      refine hK.out _ _ (HS.out _ hacc) (fun hH => ?_)
      clear hHeld; have hHeld := hH; clear hH hK K
      try simp only [Act.put, List.setIfInBounds_toArray, List.set_cons_zero, List.set_cons_succ]
      refine wpAnyH_one 2 (o := ?_) (by kernel_rfl) ?_ (fun K hK => ?_)
      rotate_left 1
      · simp only [List.getElem?_toArray, List.getElem?_cons_succ, List.getElem?_cons_zero]; rfl
      rw [if_pos (by rfl)]
      refine wp_append_en _ _ rfl W5.drew.heap.size hacc.size (.slice (some ⟨((W5.drew).alloc (.cells (enV y).toArray 29)).heap.size, 0, none⟩) 0 0) [] rfl hO _ _ rfl (HLR.out _ hacc) O1.out (by simp; omega) ?_
      intro v1' w1' ho1 hg1
      have hacc := grown_belowE hO hacc hacc.size hg1
      have hY : w1'.heap[(W5.drew).heap.size]? = _ := (hg1.block _ (by simp; omega) (fun e => by simp [Value.ownBlock] at e)).trans (((Below.refl _ _).alloc (Nat.le_refl _) _).block _ (by simp) |>.trans hY)
      refine hK.out _ _ (HS.out _ hacc) (fun hH => ?_)
      clear hHeld; have hHeld := hH; clear hH hK K
      try simp only [Act.put, List.setIfInBounds_toArray, List.set_cons_zero, List.set_cons_succ]
      refine wpAnyH_one 17 (o := ?_) (by kernel_rfl) ?_ (fun K hK => ?_)
      rotate_left 1
      · simp only [List.getElem?_toArray, List.getElem?_cons_succ, List.getElem?_cons_zero]; rfl
      rw [if_pos (by rfl)]
      refine wp_append_en _ _ rfl W5.drew.heap.size hacc.size _ _ rfl ho1 _ _ rfl (hone _ _ hY) HON.out.1 (by simp; omega) ?_
      intro v2' w2' ho2 hg2
      have hacc := grown_belowE ho1 hacc hacc.size hg2
      refine hK.out _ _ (HS.out _ hacc) (fun hH => ?_)
      clear hHeld; have hHeld := hH; clear hH hK K
      try simp only [Act.put, List.setIfInBounds_toArray, List.set_cons_zero, List.set_cons_succ]
      refine wpAnyH_take (i := 18) (oi := ?_) (v := ?_) ?_ (by kernel_rfl) (by kernel_rfl) (by kernel_rfl) ?_ (Or.inl ⟨?_, ?_⟩) (by assumption) ?_
      rotate_left 2
      · simp only [List.getElem?_toArray, List.getElem?_cons_succ, List.getElem?_cons_zero]; rfl
      · exact fun _ _ _ h => h
      · rfl
      · (intro w hSw; (try dsimp only at hSw); go_simp) <;> with_reducible rfl
      try simp only [Act.put, List.setIfInBounds_toArray, List.set_cons_zero, List.set_cons_succ]
      refine wpAnyH_done (by kernel_rfl) ?_ _
      refine NoPanic.normal ?_
      try simp only [Act.put, List.setIfInBounds_toArray, List.set_cons_zero, List.set_cons_succ]
      rw [List.nil_append] at ho2
      have hr3 := rdE_own HON.out.2 ho2
      go_wp2_with (first
        | (go_at_call 9; (with_reducible refine (KL.out _ hacc).mono ?_); rintro e w7 ⟨rfl, hb7⟩; have hr3 := hr3.keep hb7; have hacc := bel_call hacc hb7)
        | (go_at_call 9; (with_reducible refine (KM.out _ _ hr3).mono ?_); rintro e w8 ⟨rfl, hb8⟩; have hacc := bel_call hacc hb8)
        | (go_at_call 6; (with_reducible refine (KW.out _ (HBW.out _ hacc)).mono ?_); rintro e w9 ⟨rfl, hb9⟩; have hacc := bel_call hacc hb9))
      go_ret
      exact ⟨rfl, HBW.out _ hacc⟩
end Go.Proofs.YtoeooabaofpngaaDoor
