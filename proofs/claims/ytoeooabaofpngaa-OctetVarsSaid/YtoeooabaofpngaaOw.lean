/- The walk of OctetVars. -/
import Derived.Test.YtoeooabaofpngaaOk
import Derived.Deep.AppendLies
namespace Go.Proofs.Ytoeooabaofpngaa
open Go.RowKit Go.Sort

set_option maxRecDepth 100000 in
set_option maxHeartbeats 4000000 in
theorem vars_t (bv : Value) (xs : List Int) (n i : Int) (w : World) (kw : ∀ W, Calls Try.prog 9 #[] W (fun e w' => e = .returned (.bool true) ∧ Below W.heap.size W w'))
    (h : RdB w bv xs) (hb : Bytes xs) (h0 : 0 ≤ n) (h1 : n ≤ 18446744073709551615) (hi : I64 i) :
    Calls Try.prog 7 #[bv, .int .u64 n, .int .i64 i] w fun e w' => e = .returned (.bool true) ∧ Below w.heap.size w w' := by
  have kv := vast_c bv xs w h
  by_cases hvast : 16384 < xs.length
  · rw [decide_eq_true hvast] at kv
    go_enter Try.func7, Try.ntmps7
    go_wp2_with first
        | (go_at_call 8; with_reducible refine kv.mono ?_; rintro e w1 ⟨rfl, rfl⟩)
        | (go_at_call 9; with_reducible refine (kw _).mono ?_; rintro e w2 ⟨rfl, hb2⟩)
    go_ret
    exact ⟨rfl, hb2⟩
  rw [decide_eq_false hvast] at kv
  have hv : ∃ a cap, bv = .slice a xs.length cap ∧ xs.length ≤ cap := by
    rcases h with ⟨rfl, rfl⟩ | ⟨a, g, o, cap, rfl, hc, ha, hcell⟩
    · exact ⟨_, _, rfl, Nat.le_refl _⟩
    · exact ⟨_, _, rfl, hc⟩
  obtain ⟨a, cap, hbv, hc⟩ := hv
  have g40 : IntKind.i64.wrap ((xs.length : Int) + 40) = ((xs.length + 40 : Nat) : Int) := by rw [IntKind.wrap_i64]; omega
  obtain ⟨i0, hi0, hz0, hz1, hz2⟩ := info_parts Try.info5
  subst hbv
  have HR := Lib.hid h
  clear h
  go_enter Try.func7, Try.ntmps7
  go_upto_region 3 with (go_at_call 8; with_reducible refine kv.mono ?_; rintro e w1 ⟨rfl, rfl⟩)
  go_upto_region 4 with (at_make; go_loud (refine wpList_make_own _ rfl _ _ 22 rfl w1.heap.size 5 i0 (.int .u8 0) 1 Try.underlying22 hi0 hz0 hz1 .i64 .i64 _ (xs.length + 40) rfl rfl ?m1 ?m2 ?m3 ?m4 ?_))
  try case m1 => (push_cast; omega)
  try case m2 => (rw [hz2]; omega)
  try case m3 => (unfold maxLen; omega)
  try case m4 => omega
  intro w2 hown hg2
  have hb2 : Below w1.heap.size w1 w2 := grown_none hg2
  have h := HR.out.keep hb2
  have HB2 := hb2.size
  rcases h with ⟨e1, rfl⟩ | ⟨a', g, o, cap', e1, hc', ha, hcell⟩
  case' inl =>
    injection e1 with e1 _ e2
    subst e1; subst e2
    go_upto_region 4 with fail
    have hown3 : RowO w2 w1.heap.size (.slice (some ⟨w1.heap.size, 0, none⟩) 0 (([] : List Int).length + 40)) [] := hown
    have hb3 := hb2
    clear hown hg2 hb2 HR
    have hnil : RdB w1 (.slice none 0 0) [] := .inl ⟨rfl, rfl⟩
    have HR := Lib.hid hnil
    clear hnil
    generalize (Value.slice (some ⟨w1.heap.size, 0, none⟩) 0 (([] : List Int).length + 40)) = vo at *
    generalize hxs : ([] : List Int) = xs at *
    generalize w2 = w3 at *
  case' inr =>
    injection e1 with e1 _ e2
    subst e1; subst e2
    have hcells := rd_cell (w := w2) (xs := xs) ha hcell xs.length
    rw [List.take_length] at hcells
    have HN := Lib.hid hcells
    clear hcells hcell ha
    go_upto_region 4 with (at_builtin; go_loud (refine wpList_append_own _ rfl _ _ 22 rfl w1.heap.size 5 i0 (.int .u8 0) 1 1 Try.underlying22 hi0 hz0 hz1 hz2 rfl (by decide) _ _ _ rfl hown a' xs.length cap (u8s xs) rfl (by simp [u8s]) HN.out (u8s_one xs) ?a3 ?a4 ?a5 ?_))
    try case a3 => (unfold maxLen; omega)
    try case a4 => omega
    try case a5 => omega
    intro vo w3 hown' hgrow _
    have hb3 := grown_below hown hb2 HB2 hgrow
    clear hgrow hown hg2 hb2 HN
    have hown3 : RowO w3 w1.heap.size vo xs := by first | exact hown' | simpa using hown'
    clear hown'
    go_upto_region 4 with fail
  all_goals
    have HB3 := hb3.size
    have hxl : xs.length ≤ 16384 := by omega
    have kp := putvar_c vo xs n w3 hown3.rd (by omega) h0 h1
    go_upto_region 5 with (go_at_call 24; with_reducible refine kp.mono ?_; rintro e w4 ⟨vc, rfl, hc4, hb4⟩)
    have hown4 : RowO w4 w1.heap.size vo xs := hown3.keep hb4
    have hb14 : Below w1.heap.size w1 w4 := hb3.trans (hb4.mono HB3)
    have hne : vc.ownBlock = none ∨ vc.ownBlock ≠ vo.ownBlock := by
      by_cases hx : vc.ownBlock = none
      · exact .inl hx
      · refine .inr fun e => ?_
        obtain ⟨q, hq⟩ := Option.ne_none_iff_exists'.1 hx
        have := hc4.lt q hq
        have h2 := World.ownsRow.lt hown3 q (e ▸ hq)
        omega
    clear hown3 kp kv
    obtain ⟨cs, hcs⟩ : ∃ cs, cs = xs ++ varB n := ⟨_, rfl⟩
    rw [← hcs] at hc4
    have HCS := Lib.hid hcs
    clear hcs
    go_upto_region 6 with fail
    go_loopw [7, 9] (fun l i wr => ∃ k : Nat, k ≤ 40 ∧ i = .int .i64 k ∧ RowO wr w1.heap.size l (xs ++ List.replicate k 238) ∧ RowO wr w3.heap.size vc cs ∧ (vc.ownBlock = none ∨ vc.ownBlock ≠ l.ownBlock) ∧ Below w1.heap.size w1 wr) (fun _ i _ => 40 - (intOf i).toNat)
    case atStart => exact ⟨0, by omega, rfl, by simpa using hown4, hc4, hne, hb14⟩
    case round =>
      obtain ⟨k, hk, rfl, hl5, hc5, hne5, hb5⟩ := hrel
      have HB5 := hb5.size
      by_cases hlt : k < 40
      · have hlen : (xs ++ List.replicate k (238 : Int)).length ≤ 20000 := by rw [List.length_append, List.length_replicate]; omega
        have hass : xs ++ List.replicate (k + 1) (238 : Int) = (xs ++ List.replicate k 238) ++ [238] := by rw [List.replicate_succ', List.append_assoc]
        unfold RowO at hl5
        generalize xs ++ List.replicate k (238 : Int) = zs at *
        have HA := Lib.hid hass
        clear hass
        go_wp2_with (at_builtin; go_loud (refine wpList_append_own_at _ rfl _ _ 22 rfl w1.heap.size 5 i0 (.int .u8 0) 1 1 Try.underlying22 hi0 hz0 hz1 hz2 rfl (by decide) _ _ _ rfl (ownsRow_alloc hl5 _) ⟨wr.heap.size, 0, none⟩ 1 1 [.int .u8 238] rfl rfl (cell_one_new _ _ _) ?b2 ?b3 ?b4 ?b5 ?_))
        try case b2 => (intro u hu; simp at hu; subst hu; rfl)
        try case b3 => (unfold maxLen; omega)
        try case b4 => omega
        try case b5 => (simp; omega)
        intro v' w6 hown6 hgrow _ hat
        have hc5' : (wr.alloc (Obj.cells #[Value.int IntKind.u8 238] 5)).ownsRow w3.heap.size 5 1 vc cs.length (u8s cs) := ownsRow_alloc hc5 _
        have hc6 : RowO w6 w3.heap.size vc cs := hc5'.kept hgrow hne5
        have hb6 := grown_below (ownsRow_alloc hl5 _) (Below.alloc hb5 (by omega) _) (by simp; omega) hgrow
        have hne6 : vc.ownBlock = none ∨ vc.ownBlock ≠ v'.ownBlock := by
          rcases hne5 with e | e
          · exact .inl e
          · rcases hat with e2 | e2
            · exact .inr (by rw [e2]; exact e)
            · refine .inr fun e3 => ?_
              have h2 := World.ownsRow.lt hc5 _ (e3.trans e2)
              omega
        rw [u8s_snoc, show zs.length + 1 = (zs ++ [238]).length by simp, ← HA.out] at hown6
        clear hgrow hat
        go_wp2
        go_roundw
        case rel => exact ⟨k + 1, by omega, by go_num, hown6, hc6, hne6, hb6⟩
        case measure => simp [intOf]; omega
      · have hk40 : k = 40 := by omega
        subst hk40
        have ha := hb5
        have hC := hc5
        have hL := hl5
        have hX : xs.length ≤ 1000000 := by omega
        have hcl : cs.length ≤ 1000000 := by have := (varB_len n).2; rw [HCS.out, List.length_append]; omega
        rcases hl5.rd with ⟨-, e⟩ | ⟨al, gl, ol, capl, rfl, hcl2, hal, hcell2⟩
        · have := congrArg List.length e
          simp at this
        obtain rfl := hal (by simp)
        have hpre := rd_part (j := 0) (z := xs.length) (cap := capl) hcell2 (by simp) (by simp at hcl2; omega)
        rw [List.drop_zero, List.take_left, Nat.add_zero] at hpre
        rw [show (xs ++ List.replicate 40 (238 : Int)).length = xs.length + 40 by simp] at *
        clear hcell2
        have hP := hpre
        have kt : ∀ W v7, RdB W v7 xs → Calls Try.prog 25 #[v7, .int .i64 i] W (fun e w' => e = .returned (tri (tvarB xs i)) ∧ w' = W) := fun W v7 h7 => takevar_c v7 xs i W h7 hb (by omega) hi
        have krt : ∀ W v7, RdB W v7 xs → Calls Try.prog 26 #[v7, .int .i64 i] W (fun e w' => e = .returned (tri (tvarB xs i)) ∧ Below W.heap.size W w') := fun W v7 h7 => by
          have := rtakevar_c v7 xs i W h7 hb (by omega) hi
          rwa [rtvar_eq xs i hb] at this
        generalize tvarB xs i = r at kt krt
        obtain ⟨n1, p1, e1⟩ := r
        unfold tri at kt krt
        simp only at kt krt
        go_upto_region 11 with first
              | (go_at_call 12; with_reducible refine (copied_c _ xs _ (HR.out.keep ha) (by omega)).mono ?_; rintro e w7 ⟨v7, rfl, hr7, hb7⟩; have ha := bel_call ha hb7; have hC := hC.keep hb7; have hP := hP.keep hb7)
              | (go_at_call 25; with_reducible refine (kt _ _ hr7.rd).mono ?_; rintro e w8 ⟨rfl, rfl⟩)
              | (go_at_call 26; with_reducible refine (krt _ _ (HR.out.keep ha)).mono ?_; rintro e w8 ⟨rfl, hb8⟩; have ha := bel_call ha hb8; have hC := hC.keep hb8; have hP := hP.keep hb8)
        obtain ⟨V, hV⟩ : ∃ V, V = varB n := ⟨_, rfl⟩
        have kv : ∀ W, Calls Try.prog 27 #[.int .u64 n] W _ := fun W => var_c n W h0 h1
        have hVl := varB_len n
        rw [← hV] at hVl
        simp only [← hV] at kv
        have hcsV : cs = xs ++ V := by rw [HCS.out, hV]
        have HCV := Lib.hid hcsV
        clear hV hcsV
        generalize w8 = W8 at *
        go_upto_region 13 with first
              | (go_at_call 12; with_reducible refine (copied_c _ xs _ (HR.out.keep ha) (by omega)).mono ?_; rintro e w9 ⟨v9, rfl, hr9, hb9⟩; have hBB := hb9)
              | (go_at_call 27; with_reducible refine (kv _).mono ?_; rintro e w10 ⟨vv, rfl, hrv, hbv⟩; have hBB := bel_call hBB hbv; have HBB := hBB.size; obtain ⟨al2, capl2, rfl, hcl2, hcells2⟩ := hrv.rd.some' (by omega); have hr10 := hr9.keep hbv; unfold RowO at hr10; have HN2 := Lib.hid hcells2; clear hcells2 hrv hr9)
              | (at_builtin; go_loud (refine wpList_append_own _ rfl _ _ 22 rfl W8.heap.size 5 i0 (.int .u8 0) 1 1 Try.underlying22 hi0 hz0 hz1 hz2 rfl (by decide) _ _ _ rfl hr10 al2 V.length capl2 (u8s V) rfl (by simp [u8s]) HN2.out (u8s_one V) (by unfold maxLen; omega) (by omega) HBB ?_; intro v11 w11 hr11 hgrow11 _; have hBB := grown_below hr10 hBB HBB hgrow11; rw [u8s_append] at hr11; have hr12 : RowO w11 W8.heap.size v11 cs := (by unfold RowO; rw [HCV.out, List.length_append]; exact hr11); clear hgrow11 hr11 hr10; have ha := bel_call ha hBB; have hC := hC.keep hBB; have hP := hP.keep hBB))
              | (go_at_call 14; with_reducible refine (same_c _ _ cs cs _ hC.rd hr12.rd (by omega) (by omega)).mono ?_; rintro e w12 ⟨rfl, hb12⟩; rw [decide_eq_true rfl]; have ha := bel_call ha hb12; have hP := hP.keep hb12; clear hC)
              | (go_at_call 14; with_reducible refine (same_c _ _ xs xs _ hP (HR.out.keep ha) (by omega) (by omega)).mono ?_; rintro e w13 ⟨rfl, hb13⟩; rw [decide_eq_true rfl]; have ha := bel_call ha hb13)
              | (go_at_call 14; rw [show xs.length = 0 by rw [← hxs]; rfl] at hP; with_reducible refine (same_c _ _ xs xs _ hP (HR.out.keep ha) (by omega) (by omega)).mono ?_; rintro e w13 ⟨rfl, hb13⟩; rw [decide_eq_true rfl]; have ha := bel_call ha hb13)
        have kso : ∀ W v7, RdB W v7 xs → Calls Try.prog 28 #[v7, .int .i64 i, .int .u64 n] W _ := fun W v7 h7 => some_c v7 xs i n W h7 (by omega) hi h0 h1
        have krs : ∀ W v7, RdB W v7 xs → Calls Try.prog 29 #[v7, .int .i64 i, .int .u64 n] W _ := fun W v7 h7 => rsome_c v7 xs i n W h7 (by omega) hi h0 h1
        have hsl : (someB xs i n).1.length ≤ 100000 := by
          unfold someB
          split
          · simp
          split
          · simp
          · simp only [List.length_take, List.length_drop]; omega
        generalize someB xs i n = sm at kso krs hsl
        obtain ⟨S, p2, e2⟩ := sm
        simp only at kso krs hsl
        have hbs := ha.size
        go_upto_region 16 with first
              | (go_at_call 12; with_reducible refine (copied_c _ xs _ (HR.out.keep ha) (by omega)).mono ?_; rintro e w14 ⟨vm, rfl, hrm, hbm⟩; have ha := bel_call ha hbm)
              | (go_at_call 28; with_reducible refine (kso _ _ hrm.rd).mono ?_; rintro e w15 ⟨vp, rfl, hrp, hbp⟩; have HZ := hbp.size; have ha := bel_call ha hbp; have hrm2 := hrm.keep hbp)
              | (go_at_call 29; with_reducible refine (krs _ _ (HR.out.keep ha)).mono ?_; rintro e w16 ⟨vq, rfl, hrq, hbq⟩; have ha := bel_call ha hbq; have hrm3 := hrm2.keep hbq; have hrp2 := hrp.keep hbq)
        have HM := World.ownsRow.lt hrm
        have HP := World.ownsRow.lt hrp
        have HQ := World.ownsRow.lt hrq
        have hnp : vp.ownBlock = none ∨ vp.ownBlock ≠ vm.ownBlock := by
          by_cases hx : vp.ownBlock = none
          · exact .inl hx
          · refine .inr fun e => ?_
            obtain ⟨q, hq⟩ := Option.ne_none_iff_exists'.1 hx
            have h1 := HP q hq
            have h2 := HM q (e ▸ hq)
            omega
        have hnq : vq.ownBlock = none ∨ vq.ownBlock ≠ vm.ownBlock := by
          by_cases hx : vq.ownBlock = none
          · exact .inl hx
          · refine .inr fun e => ?_
            obtain ⟨q, hq⟩ := Option.ne_none_iff_exists'.1 hx
            have h1 := HQ q hq
            have h2 := HM q (e ▸ hq)
            omega
        clear HM HP HQ HZ kso krs hbm hbp hbq hrm hrm2 hrp
        obtain ⟨am, capm, rfl⟩ : ∃ a c, vm = .slice a xs.length c := by
          rcases hrm3.rd with ⟨rfl, e⟩ | ⟨a, g, o, cap, rfl, hc, -, -⟩
          · exact ⟨none, 0, by rw [e]; rfl⟩
          · exact ⟨_, _, rfl⟩
        generalize w13.heap.size = Bm at *
        generalize w14.heap.size = Bp at *
        generalize w15.heap.size = Bq at *
        go_upto_region 17 with fail
        go_loopw [23] (fun i wr => ∃ (k : Nat) (zs : List Int), k ≤ xs.length ∧ zs.length = xs.length ∧ i = .int .i64 k ∧ RowO wr Bm (.slice am xs.length capm) zs ∧ RowO wr Bp vp S ∧ RowO wr Bq vq S ∧ Below w1.heap.size w1 wr) (fun i _ => xs.length - (intOf i).toNat)
        case atStart => exact ⟨0, xs, by omega, rfl, rfl, hrm3, hrp2, hrq, ha⟩
        case round =>
          obtain ⟨k, zs, hk, hzl, rfl, hm, hp, hq, hB⟩ := hrel
          clear hrm3 hrp2 hrq ha
          have HB := hB.size
          by_cases hlt : k < xs.length
          · have hmd := RowO.down hm hbs
            have hm' : wr.ownsRow Bm 5 1 (.slice am xs.length capm) xs.length (u8s zs) := by unfold RowO at hm; rw [hzl] at hm; exact hm
            obtain ⟨g, cg, e, hg0, hg1⟩ := World.ownsRow.form hm' (by omega)
            injection e with e1 _ e2
            subst e1; subst e2
            have c1 : wr.cell? ⟨g, k, none⟩ = some (.int .u8 (zs[k]?.getD 0)) := by
              rw [World.ownsRow.cellAt hm' k (by omega)]
              simp only [u8s, List.getElem?_map]
              rw [List.getElem?_eq_getElem (by omega)]; rfl
            have f1 : wr.frozen? ⟨g, k, none⟩ = false := World.ownsRow.frozenAt hm' k
            generalize zs[k]?.getD 0 = z at *
            obtain ⟨hst, hgr⟩ := World.ownsRow.stored hm' k (.int .u8 (bits .xor .u8 z 119))
            have hB2 := grown_below hmd hB HB hgr
            have hp2 : RowO (wr.setCell ⟨g, k, none⟩ (.int .u8 (bits .xor .u8 z 119))) Bp vp S := World.ownsRow.kept hp hgr hnp
            have hq2 : RowO (wr.setCell ⟨g, k, none⟩ (.int .u8 (bits .xor .u8 z 119))) Bq vq S := World.ownsRow.kept hq hgr hnq
            have hm2 : RowO (wr.setCell ⟨g, k, none⟩ (.int .u8 (bits .xor .u8 z 119))) Bm (.slice (some ⟨g, 0, none⟩) xs.length capm) (zs.set k (bits .xor .u8 z 119)) := by
              unfold RowO
              rw [List.length_set, hzl, show u8s (zs.set k (bits .xor .u8 z 119)) = (u8s zs).set k (.int .u8 (bits .xor .u8 z 119)) by simp [u8s]]
              exact hst
            have H1 := Lib.hid hB2; have H2 := Lib.hid hp2; have H3 := Lib.hid hq2; have H4 := Lib.hid hm2; have H5 := Lib.hid hzl
            clear hmd hB2 hp2 hq2 hm2 hst hgr hm hm' hp hq hzl hnp hnq
            go_wp2_with fail
            all_goals
              go_roundw
              case rel => exact ⟨k + 1, _, by omega, by rw [List.length_set]; exact H5.out, by go_num, H4.out, H2.out, H3.out, H1.out⟩
              case measure => simp [intOf]; omega
          · obtain rfl : k = xs.length := by omega
            have hba := Below.refl wr.heap.size wr
            go_wp2_with first
              | (go_at_call 14; with_reducible refine (same_c _ _ S S _ hp.rd hq.rd (by omega) (by omega)).mono ?_; rintro e w12 ⟨rfl, hb12⟩; rw [decide_eq_true rfl]; have hB := bel_call hB hb12)
              | (go_at_call 9; with_reducible refine (kw _).mono ?_; rintro e w12 ⟨rfl, hb12⟩; have hB := bel_call hB hb12)
            go_ret
            exact ⟨rfl, hB⟩
end Go.Proofs.Ytoeooabaofpngaa
