/- The walk of OctetNumbers, given the anchor's contract. -/
import Derived.Test.YtoeooabaofpngaaOj
import Derived.Maps.AppendAt
import Derived.OwnWalk
namespace Go.Proofs.Ytoeooabaofpngaa
open Go.RowKit Go.Sort

theorem vast_c (v : Value) (xs : List Int) (w : World) (h : RdB w v xs) : Calls Try.prog 8 #[v] w fun e w' => e = .returned (.bool (decide (16384 < xs.length))) ∧ w' = w := by
  have hv : ∃ a cap, v = .slice a xs.length cap ∧ xs.length ≤ cap := by
    rcases h with ⟨rfl, rfl⟩ | ⟨a, g, o, cap, rfl, hc, ha, hcell⟩
    · exact ⟨_, _, rfl, Nat.le_refl _⟩
    · exact ⟨_, _, rfl, hc⟩
  obtain ⟨a, cap, rfl, hc⟩ := hv
  go_enter Try.func8, Try.ntmps8
  go_wp2
  go_ret
  exact ⟨by simp [go_sem]; omega, rfl⟩

theorem grown_none {a b : World} (h : a.grownBy b none) : Below a.heap.size a b := (Below.refl _ a).grown h (Nat.le_refl _) (fun j e => by cases e)

set_option maxRecDepth 100000 in
theorem numbers_t (bv : Value) (xs : List Int) (n i s : Int) (w : World) (kw : ∀ W, Calls Try.prog 9 #[] W (fun e w' => e = .returned (.bool true) ∧ Below W.heap.size W w'))
    (h : RdB w bv xs) (hb : Bytes xs) (h0 : 0 ≤ n) (h1 : n ≤ 18446744073709551615) (hi : I64 i) (hs : I64 s) :
    Calls Try.prog 3 #[bv, .int .u64 n, .int .i64 i, .int .i64 s] w fun e w' => e = .returned (.bool true) ∧ Below w.heap.size w w' := by
  have kv := vast_c bv xs w h
  by_cases hvast : 16384 < xs.length
  · rw [decide_eq_true hvast] at kv
    go_enter Try.func3, Try.ntmps3
    go_wp2_with first
        | (go_at_call 8; with_reducible refine kv.mono ?_; rintro e w1 ⟨rfl, rfl⟩)
        | (go_at_call 9; with_reducible refine (kw _).mono ?_; rintro e w2 ⟨rfl, hb2⟩)
    go_ret
    exact ⟨rfl, hb2⟩
  rw [decide_eq_false hvast] at kv
  have hv : ∃ a cap, bv = .slice a xs.length cap ∧ xs.length ≤ cap := by
    rcases h with ⟨rfl, rfl⟩ | ⟨a, g, o, cap, rfl, hc, ha, hcell⟩
    · exact ⟨_, _, rfl, Nat.le_refl _⟩
    · exact ⟨_, _, rfl, hc⟩
  obtain ⟨a, cap, hbv, hc⟩ := hv
  have g40 : IntKind.i64.wrap ((xs.length : Int) + 40) = ((xs.length + 40 : Nat) : Int) := by rw [IntKind.wrap_i64]; omega
  obtain ⟨i0, hi0, hz0, hz1, hz2⟩ := info_parts Try.info5
  subst hbv
  have HR := Lib.hid h
  clear h
  go_enter Try.func3, Try.ntmps3
  go_upto_region 3 with (go_at_call 8; with_reducible refine kv.mono ?_; rintro e w1 ⟨rfl, rfl⟩)
  go_upto_region 4 with (at_make; go_loud (refine wpList_make_own _ rfl _ _ 22 rfl w1.heap.size 5 i0 (.int .u8 0) 1 Try.underlying22 hi0 hz0 hz1 .i64 .i64 _ (xs.length + 40) rfl rfl ?m1 ?m2 ?m3 ?m4 ?_))
  try case m1 => (push_cast; omega)
  try case m2 => (rw [hz2]; omega)
  try case m3 => (unfold maxLen; omega)
  try case m4 => omega
  intro w2 hown hg2
  have hb2 : Below w1.heap.size w1 w2 := grown_none hg2
  have h := HR.out.keep hb2
  have HB2 := hb2.size
  rcases h with ⟨e1, rfl⟩ | ⟨a', g, o, cap', e1, hc', ha, hcell⟩
  case' inl =>
    injection e1 with e1 _ e2
    subst e1; subst e2
    go_upto_region 4 with fail
    have hown3 : RowO w2 w1.heap.size (.slice (some ⟨w1.heap.size, 0, none⟩) 0 (([] : List Int).length + 40)) [] := hown
    have hb3 := hb2
    clear hown hg2 hb2 HR
    have hnil : RdB w1 (.slice none 0 0) [] := .inl ⟨rfl, rfl⟩
    have HR := Lib.hid hnil
    clear hnil
    generalize (Value.slice (some ⟨w1.heap.size, 0, none⟩) 0 (([] : List Int).length + 40)) = vo at *
    generalize hxs : ([] : List Int) = xs at *
    generalize w2 = w3 at *
  case' inr =>
    injection e1 with e1 _ e2
    subst e1; subst e2
    have hcells := rd_cell (w := w2) (xs := xs) ha hcell xs.length
    rw [List.take_length] at hcells
    have HN := Lib.hid hcells
    clear hcells hcell ha
    go_upto_region 4 with (at_builtin; go_loud (refine wpList_append_own _ rfl _ _ 22 rfl w1.heap.size 5 i0 (.int .u8 0) 1 1 Try.underlying22 hi0 hz0 hz1 hz2 rfl (by decide) _ _ _ rfl hown a' xs.length cap (u8s xs) rfl (by simp [u8s]) HN.out (u8s_one xs) ?a3 ?a4 ?a5 ?_))
    try case a3 => (unfold maxLen; omega)
    try case a4 => omega
    try case a5 => omega
    intro vo w3 hown' hgrow _
    have hb3 := grown_below hown hb2 HB2 hgrow
    clear hgrow hown hg2 hb2 HN
    have hown3 : RowO w3 w1.heap.size vo xs := by first | exact hown' | simpa using hown'
    clear hown'
    go_upto_region 4 with fail
  all_goals
    have HB3 := hb3.size
    have hxl : xs.length ≤ 16384 := by omega
    have kp := put_c vo xs n s w3 hown3.rd (by omega) h0 h1
    go_upto_region 5 with (go_at_call 10; with_reducible refine kp.mono ?_; rintro e w4 ⟨vc, rfl, hc4, hb4⟩)
    have hown4 : RowO w4 w1.heap.size vo xs := hown3.keep hb4
    have hb14 : Below w1.heap.size w1 w4 := hb3.trans (hb4.mono HB3)
    have hne : vc.ownBlock = none ∨ vc.ownBlock ≠ vo.ownBlock := by
      by_cases hx : vc.ownBlock = none
      · exact .inl hx
      · refine .inr fun e => ?_
        obtain ⟨q, hq⟩ := Option.ne_none_iff_exists'.1 hx
        have := hc4.lt q hq
        have h2 := World.ownsRow.lt hown3 q (e ▸ hq)
        omega
    clear hown3 kp kv
    obtain ⟨cs, hcs⟩ : ∃ cs, cs = putB xs n s := ⟨_, rfl⟩
    rw [← hcs] at hc4
    have HCS := Lib.hid hcs
    clear hcs
    go_upto_region 6 with fail
    go_loopw [9, 11] (fun l i wr => ∃ k : Nat, k ≤ 40 ∧ i = .int .i64 k ∧ RowO wr w1.heap.size l (xs ++ List.replicate k 238) ∧ RowO wr w3.heap.size vc cs ∧ (vc.ownBlock = none ∨ vc.ownBlock ≠ l.ownBlock) ∧ Below w1.heap.size w1 wr) (fun _ i _ => 40 - (intOf i).toNat)
    case atStart => exact ⟨0, by omega, rfl, by simpa using hown4, hc4, hne, hb14⟩
    case round =>
      obtain ⟨k, hk, rfl, hl5, hc5, hne5, hb5⟩ := hrel
      have HB5 := hb5.size
      by_cases hlt : k < 40
      · have hlen : (xs ++ List.replicate k (238 : Int)).length ≤ 20000 := by rw [List.length_append, List.length_replicate]; omega
        have hass : xs ++ List.replicate (k + 1) (238 : Int) = (xs ++ List.replicate k 238) ++ [238] := by rw [List.replicate_succ', List.append_assoc]
        unfold RowO at hl5
        generalize xs ++ List.replicate k (238 : Int) = zs at *
        have HA := Lib.hid hass
        clear hass
        go_wp2_with (at_builtin; go_loud (refine wpList_append_own_at _ rfl _ _ 22 rfl w1.heap.size 5 i0 (.int .u8 0) 1 1 Try.underlying22 hi0 hz0 hz1 hz2 rfl (by decide) _ _ _ rfl (ownsRow_alloc hl5 _) ⟨wr.heap.size, 0, none⟩ 1 1 [.int .u8 238] rfl rfl (cell_one_new _ _ _) ?b2 ?b3 ?b4 ?b5 ?_))
        try case b2 => (intro u hu; simp at hu; subst hu; rfl)
        try case b3 => (unfold maxLen; omega)
        try case b4 => omega
        try case b5 => (simp; omega)
        intro v' w6 hown6 hgrow _ hat
        have hc5' : (wr.alloc (Obj.cells #[Value.int IntKind.u8 238] 5)).ownsRow w3.heap.size 5 1 vc cs.length (u8s cs) := ownsRow_alloc hc5 _
        have hc6 : RowO w6 w3.heap.size vc cs := hc5'.kept hgrow hne5
        have hb6 := grown_below (ownsRow_alloc hl5 _) (Below.alloc hb5 (by omega) _) (by simp; omega) hgrow
        have hne6 : vc.ownBlock = none ∨ vc.ownBlock ≠ v'.ownBlock := by
          rcases hne5 with e | e
          · exact .inl e
          · rcases hat with e2 | e2
            · exact .inr (by rw [e2]; exact e)
            · refine .inr fun e3 => ?_
              have h2 := World.ownsRow.lt hc5 _ (e3.trans e2)
              omega
        rw [u8s_snoc, show zs.length + 1 = (zs ++ [238]).length by simp, ← HA.out] at hown6
        clear hgrow hat
        go_wp2
        go_roundw
        case rel => exact ⟨k + 1, by omega, by go_num, hown6, hc6, hne6, hb6⟩
        case measure => simp [intOf]; omega
      · have hk40 : k = 40 := by omega
        subst hk40
        have ha := hb5
        have hC := hc5
        have hL := hl5
        have hX : xs.length ≤ 1000000 := by omega
        have hcl : cs.length ≤ 1000000 := by have := putB_len xs n s; rw [HCS.out]; omega
        rcases hl5.rd with ⟨-, e⟩ | ⟨al, gl, ol, capl, rfl, hcl2, hal, hcell2⟩
        · have := congrArg List.length e
          simp at this
        obtain rfl := hal (by simp)
        have hpre := rd_part (j := 0) (z := xs.length) (cap := capl) hcell2 (by simp) (by simp at hcl2; omega)
        rw [List.drop_zero, List.take_left, Nat.add_zero] at hpre
        rw [show (xs ++ List.replicate 40 (238 : Int)).length = xs.length + 40 by simp] at *
        clear hcell2
        have hP := hpre
        have kt : ∀ W v7, RdB W v7 xs → Calls Try.prog 11 #[v7, .int .i64 i, .int .i64 s] W (fun e w' => e = .returned (tri (takeB xs i s)) ∧ w' = W) := fun W v7 h7 => take_c v7 xs i s W h7 hb (by omega) hi hs
        have krt : ∀ W v7, RdB W v7 xs → Calls Try.prog 13 #[v7, .int .i64 i, .int .i64 s] W (fun e w' => e = .returned (tri (takeB xs i s)) ∧ Below W.heap.size W w') := fun W v7 h7 => rtake_c v7 xs i s W h7 hb (by omega) hi hs
        generalize takeB xs i s = r at kt krt
        obtain ⟨n1, p1, e1⟩ := r
        unfold tri at kt krt
        simp only at kt krt
        go_upto_region 11 with first
              | (go_at_call 12; with_reducible refine (copied_c _ xs _ (HR.out.keep ha) (by omega)).mono ?_; rintro e w7 ⟨v7, rfl, hr7, hb7⟩; have ha := bel_call ha hb7; have hC := hC.keep hb7; have hP := hP.keep hb7)
              | (go_at_call 11; with_reducible refine (kt _ _ hr7.rd).mono ?_; rintro e w8 ⟨rfl, rfl⟩)
              | (go_at_call 13; with_reducible refine (krt _ _ (HR.out.keep ha)).mono ?_; rintro e w8 ⟨rfl, hb8⟩; have ha := bel_call ha hb8; have hC := hC.keep hb8; have hP := hP.keep hb8)
        go_wp2_with first
              | (go_at_call 15; go_loud (with_reducible refine (rput_c _ xs n s _ (HR.out.keep ha) (by omega) h0 h1).mono ?_; rintro e w9 ⟨v9, rfl, hr9, hb9⟩; rw [← HCS.out] at hr9; have ha := bel_call ha hb9; have hC := hC.keep hb9; have hP := hP.keep hb9))
              | (go_at_call 14; with_reducible refine (same_c _ _ cs cs _ hC.rd hr9.rd (by omega) (by omega)).mono ?_; rintro e w10 ⟨rfl, hb10⟩; rw [decide_eq_true rfl]; have ha := bel_call ha hb10; have hP := hP.keep hb10)
              | (go_at_call 14; with_reducible refine (same_c _ _ xs xs _ hP (HR.out.keep ha) (by omega) (by omega)).mono ?_; rintro e w11 ⟨rfl, hb11⟩; rw [decide_eq_true rfl]; have ha := bel_call ha hb11)
              | (go_at_call 14; rw [show xs.length = 0 by rw [← hxs]; rfl] at hP; with_reducible refine (same_c _ _ xs xs _ hP (HR.out.keep ha) (by omega) (by omega)).mono ?_; rintro e w11 ⟨rfl, hb11⟩; rw [decide_eq_true rfl]; have ha := bel_call ha hb11)
              | (go_at_call 9; with_reducible refine (kw _).mono ?_; rintro e w12 ⟨rfl, hb12⟩; have ha := bel_call ha hb12)
        go_ret
        exact ⟨rfl, ha⟩
end Go.Proofs.Ytoeooabaofpngaa
