/- May a history be, by the document. -/
import Derived.Test.YtoeooabaofpngaaDoorVg
namespace Go.Proofs.YtoeooabaofpngaaDoor
open Go.RowKit Go.Sort
attribute [local go_sem ↓] Go.wp_at_zero Go.wp_at_succ

theorem quiet_load_mid {P : Program} {C : World → Prop} {a : Act} {o : Oper} {K : Act → Prop} (ty : TypeId) (x : Operand) (ho : o.op = .load ty x)
    (g off : Nat) (hx : a.eval x = .pointer (some ⟨g, off, none⟩)) (cs : List Value) (d : TypeDesc) (hg : ∀ w, C w → w.rangeAt g off cs)
    (hu : P.underlying ty = some d) (hd : d.isRow = true) (hi : (P.info? ty).map (·.size) = some cs.length)
    (h : K (a.put o.dst (.agg cs.toArray))) : o.quiet P a C K :=
  ⟨.agg cs.toArray, fun w hw => by
    unfold Oper.quietAt execOp
    simp only [ho, hx, run_loadAt_mid w g off ty cs d (hg w hw) hu hd hi, Sem.run_bind, Sem.run_pure, Result.andThen_ok]
    exact ⟨rfl, rfl⟩, h⟩
set_option maxRecDepth 100000 in
set_option maxHeartbeats 4000000 in
theorem rright_c (v : Value) (l : List En) (w : World) (h : RdE w v l) (ok : EnsOk l) (hl : l.length ≤ 100000) :
    Calls Tryd.prog 10 #[v] w fun e w' => e = .returned (.bool (rgtB l)) ∧ Below w.heap.size w w' := by
  obtain ⟨p0, cap0, rfl⟩ := h.form
  have H := Lib.hid h
  have HOK := Lib.hid ok
  clear h ok
  go_enter Tryd.func10, Tryd.ntmps10
  go_wp2_with fail
  go_loopw [3] (fun c wr => ∃ i : Nat, i ≤ l.length ∧ c = .int .i64 i ∧ Below w.heap.size w wr ∧ Hid (Rgt (l.take i))) (fun c _ => l.length - (intOf c).toNat)
  case atStart => exact ⟨0, by omega, rfl, Below.refl _ _, Lib.hid rgt_nil⟩
  case round =>
    obtain ⟨i, hi', rfl, hB, hr⟩ := hrel
    by_cases hlt : i < l.length
    · obtain ⟨x, hx⟩ : ∃ x, l[i]? = some x := ⟨_, List.getElem?_eq_getElem hlt⟩
      have ox : x.Ok := HOK.out x (List.mem_of_getElem? hx)
      obtain ⟨g, o, cap, hform, hcap, hg, hcell⟩ := H.out.some (by omega)
      injection hform with hf1 _ hf2
      subst hf1; subst hf2
      have hrg := range_call' (hcell i x hx) hg hB
      have htk : l.take (i + 1) = l.take i ++ [x] := by rw [List.take_add_one, hx]; rfl
      have hkt : (i : Int) < (l.length : Int) := by omega
      have hk0 : (0 : Int) ≤ (i : Int) := by omega
      have c0 : wr.cell? ⟨g, o + i * 33, none⟩ = some (.int .i64 x.h) := hrg 0 _ rfl
      have hlo := ox.lo; have hhi := ox.hi
      have HOX := Lib.hid ox; have HTK := Lib.hid htk; have HC := Lib.hid hcell; have HB := Lib.hid hB; have HRG := Lib.hid hrg; have HX := Lib.hid hx
      have hno : (x.t ∈ (l.take i).map En.t ∨ x.h < lastH (l.take i)) → rgtB l = false := fun hc => rgtB_no l (rgt_prefix l (i + 1) (by rw [htk]; exact rgt_stop _ _ hc))
      have hyes : x.t ∉ (l.take i).map En.t → ¬ x.h < lastH (l.take i) → Rgt (l.take (i + 1)) := fun h1 h2 => by rw [htk]; exact rgt_step _ _ hr.out h1 (by omega)
      have HNO := Lib.hid hno; have HYES := Lib.hid hyes
      have hlast1 := (lastH_top _ hr.out).1
      have hd0 : i = 0 → lastH (l.take i) = 1 := fun e => by subst e; rfl
      clear hrg hB hcell hx ox htk hno hyes
      by_cases hA : x.h < 1
      · have hb := HNO.out (.inr (by omega))
        have hd : decide (x.h < 1) = true := by simpa using hA
        go_wp2_with fail
        go_quiet (fail)
        go_wp2_with fail
        go_ret
        exact ⟨by rw [hb]; rfl, bel_call HB.out (below_drewN wr nq)⟩
      · have hdA : decide (x.h < 1) = false := by simpa using hA
        by_cases h0 : 0 < i
        · obtain ⟨y, hy⟩ : ∃ y, l[i - 1]? = some y := ⟨_, List.getElem?_eq_getElem (by omega)⟩
          have oy : y.Ok := HOK.out y (List.mem_of_getElem? hy)
          have htl : l.take i = l.take (i - 1) ++ [y] := by
            have : l.take (i - 1 + 1) = l.take (i - 1) ++ [y] := by rw [List.take_add_one, hy]; rfl
            rwa [show i - 1 + 1 = i by omega] at this
          have hlh : lastH (l.take i) = y.h := by rw [htl, lastH_snoc]
          have cy : wr.cell? ⟨g, o + (i - 1) * 33, none⟩ = some (.int .i64 y.h) := range_call' (HC.out _ y hy) hg HB.out 0 _ rfl
          have e1 : IntKind.i64.wrap ((i : Int) - 1) = ((i - 1 : Nat) : Int) := by rw [IntKind.wrap_i64]; omega
          have i1 : (0 : Int) ≤ ((i - 1 : Nat) : Int) := by omega
          have i2 : ((i - 1 : Nat) : Int) < (l.length : Int) := by omega
          have hd0 : decide (0 < i) = true := by simpa using h0
          rw [hlh] at HNO HYES
          by_cases hC : x.h < y.h
          · have hb := HNO.out (.inr hC)
            have hdC : decide (x.h < y.h) = true := by simpa using hC
            clear htl hlh hy oy
            generalize x.h = xh at *
            generalize y.h = yh at *
            go_wp2_with fail
            go_quiet (fail)
            go_wp2_with fail
            go_ret
            exact ⟨by rw [hb]; rfl, bel_call HB.out (below_drewN wr nq)⟩
          · have hdC : decide (x.h < y.h) = false := by simpa using hC
            have HNB := hC
            clear htl hlh hy oy
            have HNB := Lib.hid hC
            generalize x.h = xh at *
            generalize y.h = yh at *
            go_wp2_with fail
            go_quiet (fail)
            have HBI := Lib.hid (bel_call HB.out (below_drewN wr nq))
            go_wp2_with fail
            go_loopw [4] (fun c wr => ∃ k : Nat, k ≤ i ∧ c = .int .i64 k ∧ Below w.heap.size w wr ∧ Hid (x.t ∉ (l.take k).map En.t)) (fun c _ => i - (intOf c).toNat)
            case atStart => exact ⟨0, by omega, rfl, HBI.out, Lib.hid (by simp)⟩
            case round =>
              clear HBI
              obtain ⟨k, hk', rfl, hB, hnk⟩ := hrel
              by_cases hltk : k < i
              · obtain ⟨z, hz⟩ : ∃ z, l[k]? = some z := ⟨_, List.getElem?_eq_getElem (by omega)⟩
                have oz : z.Ok := HOK.out z (List.mem_of_getElem? hz)
                have ktk : l.take (k + 1) = l.take k ++ [z] := by rw [List.take_add_one, hz]; rfl
                have r1 := range_call' (HC.out k z hz) hg hB
                have r2 := range_call' (HC.out i x HX.out) hg hB
                have ltw := Nat.lt_of_lt_of_le hg hB.size
                have q1 : ∀ W', (∃ n, W' = wr.drewN n) → W'.rangeAt g (o + k * 33 + 1) (z.t.map (Value.int .u8)) := by
                  rintro W' ⟨n, rfl⟩
                  refine range_call' (fun j v hv => ?_) ltw (below_drewN wr _)
                  have := r1 (j + 1) v (by simpa [enV] using hv)
                  rwa [show o + k * 33 + 1 + j = o + k * 33 + (j + 1) by omega]
                have q2 : ∀ W', (∃ n, W' = wr.drewN n) → W'.rangeAt g (o + i * 33 + 1) (x.t.map (Value.int .u8)) := by
                  rintro W' ⟨n, rfl⟩
                  refine range_call' (fun j v hv => ?_) ltw (below_drewN wr _)
                  have := r2 (j + 1) v (by simpa [enV] using hv)
                  rwa [show o + i * 33 + 1 + j = o + i * 33 + (j + 1) by omega]
                have hi1 := info27 (z.t.map (Value.int .u8)).length (by simp [oz.l])
                have hi2 := info27 (x.t.map (Value.int .u8)).length (by simp [HOX.out.l])
                have heq := fun W => run_eql_ints (P := Tryd.prog) (t := 27) (e := 5) (q := .u8) (n := 32) (w := W) u_hash Tryd.underlying5 Tryd.sizeOf5 z.t x.t oz.l HOX.out.l
                have hk1 : (k : Int) < (i : Int) := by omega
                have hk0' : (0 : Int) ≤ (k : Int) := by omega
                have hkl : (k : Int) < (l.length : Int) := by omega
                have heqr : z.t = x.t → rgtB l = false := fun e => HNO.out (.inl (List.mem_map.2 ⟨z, List.mem_of_getElem? (by rw [List.getElem?_take, if_pos hltk]; exact hz), e⟩))
                have hnk2 : ¬ z.t = x.t → x.t ∉ (l.take (k + 1)).map En.t := fun e h => by
                  rw [ktk] at h
                  simp only [List.map_append, List.map_cons, List.map_nil, List.mem_append, List.mem_singleton] at h
                  rcases h with h | h
                  · exact hnk.out h
                  · exact e h.symm
                have HEQR := Lib.hid heqr; have HNK2 := Lib.hid hnk2; have HB2 := Lib.hid hB
                clear heqr hnk2 r1 r2 ktk hz oz hB hnk
                generalize z.t = zt at *
                generalize x.t = xt at *
                have hul := Tryd.underlying27
                have hcmp : ∀ W, (binOp .eql 27 (.agg (zt.map (Value.int .u8)).toArray) (.agg (xt.map (Value.int .u8)).toArray)).run Tryd.prog W = .ok (.bool (zt == xt)) W := heq
                clear heq
                by_cases hzx : zt = xt
                · have hb := HEQR.out hzx
                  have hbt : (zt == xt) = true := by simpa using hzx
                  rw [hbt] at hcmp
                  clear hzx hbt
                  go_wp2_with fail
                  refine wp_region_quiet_lit (by kernel_rfl) (by kernel_rfl) ?_
                  repeat (first | (go_big_quiet_want; (first | refine quiet_load_mid 27 _ rfl g (o + k * 33 + 1) rfl _ _ q1 hul rfl hi1 ?_ | refine quiet_load_mid 27 _ rfl g (o + i * 33 + 1) rfl _ _ q2 hul rfl hi2 ?_); simp only [Act.put, List.setIfInBounds_toArray, List.set_cons_zero, List.set_cons_succ]; go_big_quiet_on) | go_big_quiet_step (fail))
                  refine wpQuiet_nil ?_
                  rintro W1 ⟨nq3, rfl⟩
                  clear q1 q2 hcmp
                  go_wp2_with fail
                  go_ret
                  exact ⟨by rw [hb]; rfl, bel_call HB2.out (below_drewN wr nq3)⟩
                · have hnk3 := HNK2.out hzx
                  have hbt : (zt == xt) = false := by simpa using hzx
                  rw [hbt] at hcmp
                  have HNK3 := Lib.hid hnk3
                  clear hzx hbt hnk3
                  go_wp2_with fail
                  refine wp_region_quiet_lit (by kernel_rfl) (by kernel_rfl) ?_
                  repeat (first | (go_big_quiet_want; (first | refine quiet_load_mid 27 _ rfl g (o + k * 33 + 1) rfl _ _ q1 hul rfl hi1 ?_ | refine quiet_load_mid 27 _ rfl g (o + i * 33 + 1) rfl _ _ q2 hul rfl hi2 ?_); simp only [Act.put, List.setIfInBounds_toArray, List.set_cons_zero, List.set_cons_succ]; go_big_quiet_on) | go_big_quiet_step (fail))
                  refine wpQuiet_nil ?_
                  rintro W1 ⟨nq3, rfl⟩
                  clear q1 q2 hcmp
                  go_wp2_with fail
                  go_roundw
                  case rel => exact ⟨k + 1, by omega, by go_num, bel_call HB2.out (below_drewN wr nq3), HNK3⟩
                  case measure => simp [intOf]; omega
              · obtain rfl : k = i := by omega
                have hyy := HYES.out hnk.out HNB.out
                have HB2 := Lib.hid hB
                clear hB
                go_wp2_with fail
                go_roundw
                case rel => exact ⟨k + 1, by omega, by go_num, HB2.out, Lib.hid hyy⟩
                case measure => simp [intOf]; omega
        · have hd0' : decide (0 < i) = false := by simpa using h0
          have hC : ¬ x.h < lastH (l.take i) := by rw [hd0 (by omega)]; exact hA
          have HNB := Lib.hid hC
          clear hd0
          generalize lastH (l.take i) = yh at *
          generalize x.h = xh at *
          go_wp2_with fail
          go_quiet (fail)
          have HBI := Lib.hid (bel_call HB.out (below_drewN wr nq))
          go_wp2_with fail
          go_loopw [4] (fun c wr => ∃ k : Nat, k ≤ i ∧ c = .int .i64 k ∧ Below w.heap.size w wr ∧ Hid (x.t ∉ (l.take k).map En.t)) (fun c _ => i - (intOf c).toNat)
          case atStart => exact ⟨0, by omega, rfl, HBI.out, Lib.hid (by simp)⟩
          case round =>
            clear HBI
            obtain ⟨k, hk', rfl, hB, hnk⟩ := hrel
            by_cases hltk : k < i
            · exact absurd hltk (by omega)
            · obtain rfl : k = i := by omega
              have hyy := HYES.out hnk.out HNB.out
              have HB2 := Lib.hid hB
              clear hB
              go_wp2_with fail
              go_roundw
              case rel => exact ⟨k + 1, by omega, by go_num, HB2.out, Lib.hid hyy⟩
              case measure => simp [intOf]; omega
    · obtain rfl : i = l.length := by omega
      rw [List.take_length] at hr
      have hrb := (rgtB_iff l).2 hr.out
      go_wp2_with fail
      go_ret
      exact ⟨by rw [hrb]; rfl, hB⟩
end Go.Proofs.YtoeooabaofpngaaDoor
