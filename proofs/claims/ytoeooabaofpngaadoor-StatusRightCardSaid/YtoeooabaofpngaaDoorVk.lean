/- The walk of StatusPlays. -/
import Derived.Test.YtoeooabaofpngaaDoorVj
namespace Go.Proofs.YtoeooabaofpngaaDoor
open Go.RowKit Go.Sort
attribute [local go_sem ↓] Go.wp_at_zero Go.wp_at_succ

theorem wpList_append_en {w : World} {ops : Array Oper} {rest : List Oper} {o : Oper} {a : Act} {Q : Exit → Act → World → Prop} (hgd : o.guard = none) (s x : Operand)
    (ho : o.op = .call { callee := .builtin .append, args := #[s, x], argTypes := #[22, 22] }) (base : Nat) (hbase : base ≤ w.heap.size)
    (v : Value) (xs : List En) (hs : a.eval s = v) (hown : w.ownsRow base 29 33 v xs.length (xs.flatMap enV)) (u : Value) (ys : List En) (hx : a.eval x = u) (hr : RdE w u ys) (ok : EnsOk ys) (hlen : xs.length + ys.length ≤ 1000000)
    (h : ∀ v' w', w'.ownsRow base 29 33 v' (xs ++ ys).length ((xs ++ ys).flatMap enV) → w.grownBy w' v.ownBlock → wpList Tryd.prog ops Q rest (a.put o.dst v') w') : wpList Tryd.prog ops Q (o :: rest) a w := by
  obtain ⟨i0, hi, hz0, hz1, hz2⟩ := info_parts infoE
  rcases hr with ⟨rfl, rfl⟩ | ⟨a', g, of, cap, rfl, hc, ha, hcell⟩
  · refine wpList_append_none hgd s x 22 ho base 29 i0 33 Tryd.underlying22 hi v xs.length _ hs hown hx ?_
    exact h v w (by rw [List.append_nil]; exact hown) (grownBy_refl _ _)
  · have hcs : ∀ (j : Nat) (z : Value), (ys.flatMap enV)[j]? = some z → w.cell? (a'.add j) = some z := by
      by_cases hp : 0 < ys.length
      · obtain ⟨rfl, -⟩ := ha hp
        exact rdE_cells ok hcell
      · have : ys = [] := List.length_eq_zero_iff.1 (by omega)
        subst this
        intro j z hz; simp at hz
    refine wpList_append_own _ hgd s x 22 ho base 29 i0 _ 33 40 Tryd.underlying22 hi hz0 hz1 hz2 zeroE_size (by decide) v xs.length _ hs hown a' ys.length cap (ys.flatMap enV) hx (flat_len ys ok) hcs (enVs_one ys) (by unfold maxLen; omega) (by omega) hbase ?_
    intro v' w1 hown' hgrow _
    refine h v' w1 ?_ hgrow
    rw [List.length_append, List.flatMap_append]
    exact hown'
theorem ownsE_nil (w : World) : (w.alloc (.cells #[] 29)).ownsRow w.heap.size 29 33 (.slice (some ⟨w.heap.size, 0, none⟩) 0 0) ([] : List En).length (([] : List En).flatMap enV) :=
  ⟨rfl, .inr ⟨_, 0, #[], rfl, Nat.le_refl _, heap_alloc_new _ _, Nat.le_refl _, by unfold maxLen; omega, rfl, rfl⟩⟩
theorem grown_belowE {B k : Nat} {W0 wr w1 : World} {v : Value} {xs : List Value} (hown : wr.ownsRow B 29 33 v k xs) (hB : Below B W0 wr) (hBs : B ≤ wr.heap.size) (hgrow : wr.grownBy w1 v.ownBlock) : Below B W0 w1 :=
  hB.grown hgrow hBs fun j hj => (hown.lt j hj).1
set_option maxRecDepth 100000 in
set_option maxHeartbeats 4000000 in
theorem plays_t (v : Value) (l : List En) (w : World) (h : RdE w v l) (ok : EnsOk l) (hm : l.length ≤ maxLen) (hk : KTab w) (hp : PTab w) :
    Calls Tryd.prog 3 #[v] w fun e w' => e = .returned (.bool true) ∧ Below w.heap.size w w' := by
  obtain ⟨p0, cap0, rfl⟩ := h.form
  unfold maxLen at hm
  by_cases hbig : 200 < l.length
  · have kw := works_c w hk hp
    go_enter Tryd.func3, Tryd.ntmps3
    go_wp2_with (go_at_call 6; (with_reducible refine kw.mono ?_); rintro e w2 ⟨rfl, hb2⟩)
    go_ret
    exact ⟨rfl, hb2⟩
  have hO := Lib.hid (ownsE_nil w)
  have hb0 := Lib.hid (bel_alloc (Below.refl _ w) (.cells #[] 29))
  have h1 := Lib.hid (h.keep hb0.out)
  have H := Lib.hid h; have HOK := Lib.hid ok
  have KOF := Lib.hid (fun W v (hr : RdE W v l) (hb : Below w.heap.size w W) => of_c v l W hr ok (by omega) (hk.call hb) (hp.call hb))
  have KRO := Lib.hid (fun W v (hr : RdE W v l) => rof_c v l W hr ok (by omega))
  have KRI := Lib.hid (fun W v (hr : RdE W v l) => right_c v l W hr ok (by omega))
  have KRR := Lib.hid (fun W v (hr : RdE W v l) => rright_c v l W hr ok (by omega))
  have KW := Lib.hid (fun W (hb : Below w.heap.size w W) => works_c W (hk.call hb) (hp.call hb))
  generalize strOfNums (ofF l) = so at *
  generalize rgtB l = rb at *
  have hsz : l.length ≤ 200 := by omega
  clear h ok hk hp hm
  go_enter Tryd.func3, Tryd.ntmps3
  go_upto_region 4 with (at_builtin; refine wpList_append_en rfl _ _ rfl w.heap.size hb0.out.size _ [] rfl hO.out _ l rfl h1.out HOK.out (by simp; omega) ?_; intro v1 w1 ho1 hg1; have hb1 := Lib.hid (grown_belowE hO.out hb0.out hb0.out.size hg1); have HR1 := Lib.hid (rdE_own HOK.out ho1); clear ho1 hg1)
  obtain ⟨p1, cap1, rfl⟩ := HR1.out.form
  have hacc := hb1.out
  have hac2 := Below.refl w1.heap.size w1
  go_wp2_with (first
    | (go_at_call 7; (with_reducible refine (KOF.out _ _ HR1.out hacc).mono ?_); rintro e w2 ⟨rfl, hb2⟩; have hacc := bel_call hacc hb2; have hac2 := bel_call hac2 hb2)
    | (go_at_call 8; (with_reducible refine (KRO.out _ _ (H.out.keep hacc)).mono ?_); rintro e w3 ⟨rfl, hb3⟩; have hacc := bel_call hacc hb3; have hac2 := bel_call hac2 hb3)
    | (go_at_call 9; (with_reducible refine (KRI.out _ _ (HR1.out.keep hac2)).mono ?_); rintro e w4 ⟨rfl, hb4⟩; have hacc := bel_call hacc hb4; have hac2 := bel_call hac2 hb4)
    | (go_at_call 10; (with_reducible refine (KRR.out _ _ (H.out.keep hacc)).mono ?_); rintro e w5 ⟨rfl, hb5⟩; have hacc := bel_call hacc hb5; have hac2 := bel_call hac2 hb5))
  have HST := Lib.hid (And.intro (HR1.out.keep hac2) hacc)
  clear hb2 hb3 hb4 hb5 hac2 hacc KOF KRO KRI KRR h1 hO hb0 hb1 HR1
  go_loopw [4] (fun c wr => ∃ k : Nat, k ≤ l.length ∧ c = .int .i64 k ∧ RdE wr (.slice p1 l.length cap1) l ∧ Below w.heap.size w wr) (fun c _ => l.length - (intOf c).toNat)
  case atStart => exact ⟨0, by omega, rfl, HST.out.1, HST.out.2⟩
  case round =>
    clear HST
    obtain ⟨k, hk', rfl, hR, hB⟩ := hrel
    by_cases hlt : k < l.length
    · obtain ⟨x, hx⟩ : ∃ x, l[k]? = some x := ⟨_, List.getElem?_eq_getElem hlt⟩
      have ox : x.Ok := HOK.out x (List.mem_of_getElem? hx)
      obtain ⟨g, o, cap, hform, hcap, hg, hcell⟩ := (H.out.keep hB).some (by omega)
      injection hform with hf1 _ hf2
      subst hf1; subst hf2
      obtain ⟨g2, o2, cap2, hform2, hcap2, hg2, hcell2⟩ := hR.some (by omega)
      injection hform2 with hf1 _ hf2
      subst hf1; subst hf2
      have q1 : ∀ W', (∃ n, W' = wr.drewN n) → W'.rangeAt g2 (o2 + k * 33) (enV x) := by
        rintro W' ⟨n, rfl⟩
        exact range_call' (hcell2 k x hx) hg2 (below_drewN wr _)
      have q2 : ∀ W', (∃ n, W' = wr.drewN n) → W'.rangeAt g (o + k * 33) (enV x) := by
        rintro W' ⟨n, rfl⟩
        exact range_call' (hcell k x hx) hg (below_drewN wr _)
      have hi1 := infoEn (enV x).length (enV_len x ox)
      have hcmp : ∀ W, (binOp .neq 29 (.agg (enV x).toArray) (.agg (enV x).toArray)).run Tryd.prog W = .ok (.bool false) W := fun W => by
        have := run_neq_en x x ox ox W
        rwa [show (x.h == x.h && x.t == x.t) = true by simp] at this
      have hk1 : (k : Int) < (l.length : Int) := by omega
      have hk0 : (0 : Int) ≤ (k : Int) := by omega
      have HB := Lib.hid (And.intro hR hB)
      clear hcell hcell2 hx ox hR hB
      generalize enV x = ex at *
      go_wp2_with fail
      refine wp_region_quiet_lit (by kernel_rfl) (by kernel_rfl) ?_
      repeat (first | (go_big_quiet_want; (first | refine quiet_load_mid 29 _ rfl g2 (o2 + k * 33) rfl _ _ q1 Tryd.underlying29 rfl hi1 ?_ | refine quiet_load_mid 29 _ rfl g (o + k * 33) rfl _ _ q2 Tryd.underlying29 rfl hi1 ?_); simp only [Act.put, List.setIfInBounds_toArray, List.set_cons_zero, List.set_cons_succ]; go_big_quiet_on) | go_big_quiet_step (fail))
      refine wpQuiet_nil ?_
      rintro W1 ⟨nq3, rfl⟩
      clear q1 q2 hcmp
      go_wp2_with fail
      go_roundw
      case rel => exact ⟨k + 1, by omega, by go_num, HB.out.1.keep (below_drewN wr nq3), bel_call HB.out.2 (below_drewN wr nq3)⟩
      case measure => simp [intOf]; omega
    · obtain rfl : k = l.length := by omega
      have kw := KW.out _ hB
      have HB := Lib.hid hB
      clear hR hB
      go_wp2_with (go_at_call 6; (with_reducible refine kw.mono ?_); rintro e w6 ⟨rfl, hb6⟩)
      go_ret
      exact ⟨rfl, bel_call HB.out hb6⟩
end Go.Proofs.YtoeooabaofpngaaDoor
