/- The document's Sound. -/
import Derived.Test.YtfohemgfiidokaaDoorNb
import Derived.Test.YtfohemgfiidokaaDoorYw
namespace Go.Proofs.YtfohemgfiidokaaDoor
open Go.RowKit Go.Sort

/-- bytes in a block of the call's own -/
def RdN (w : World) (B : Nat) (u : Value) (r : List Int) : Prop :=
  ∃ g cap cs fr, u = .slice (some ⟨g, 0, none⟩) r.length cap ∧ r.length ≤ cap ∧ B ≤ g ∧ w.heap[g]? = some (.cells cs 5 fr) ∧ ∀ j, j < r.length → cs[j]? = some (.int .u8 (r[j]?.getD 0))
theorem RdN.rd {w : World} {B : Nat} {u : Value} {r : List Int} (h : RdN w B u r) : RdB w u r := by
  obtain ⟨g, cap, cs, fr, h1, h2, h3, h4, h5⟩ := h
  exact .inr ⟨_, g, 0, cap, h1, h2, fun _ => rfl, fun j hj => by rw [Nat.zero_add, cell_of_row w g j cs _ _ h4]; exact h5 j hj⟩
theorem RdN.keep {w w' : World} {B : Nat} {u : Value} {r : List Int} (h : RdN w B u r) (hb : Below w.heap.size w w') : RdN w' B u r := by
  obtain ⟨g, cap, cs, fr, q1, q2, q3, q4, q5⟩ := h
  exact ⟨g, cap, cs, fr, q1, q2, q3, (hb.block g (Array.getElem?_eq_some_iff.1 q4).1).trans q4, q5⟩
/-- a list of such rows, itself the call's own -/
def FrT (w : World) (B : Nat) (v : Value) (ls : List (List Int)) : Prop :=
  ∃ vs : List Value, w.ownsRow B 35 1 v ls.length vs ∧ ∀ j (h : j < ls.length), ∃ u, vs[j]? = some u ∧ RdN w B u ls[j]
theorem FrT.nil (w : World) (B : Nat) : FrT w B (.slice none 0 0) [] := ⟨[], World.ownsRow_nil _ _ _ _, fun j hj => by simp at hj⟩
theorem FrT.keep {w w' : World} {B : Nat} {v : Value} {ls : List (List Int)} (h : FrT w B v ls) (hb : Below w.heap.size w w') : FrT w' B v ls := by
  obtain ⟨vs, h1, h2⟩ := h
  refine ⟨vs, ownsRow_keep h1 hb, fun j hj => ?_⟩
  obtain ⟨u, h3, g, cap, cs, fr, q1, q2, q3, q4, q5⟩ := h2 j hj
  exact ⟨u, h3, g, cap, cs, fr, q1, q2, q3, (hb.block g (Array.getElem?_eq_some_iff.1 q4).1).trans q4, q5⟩
theorem FrT.snoc {W W1 : World} {B : Nat} {vs : List Value} {rv v' u : Value} {ls : List (List Int)} {r : List Int} (h1 : W.ownsRow B 35 1 rv ls.length vs) (h2 : ∀ j (h : j < ls.length), ∃ u, vs[j]? = some u ∧ RdN W B u ls[j]) (hu : RdN W B u r)
    (hown : W1.ownsRow B 35 1 v' (ls.length + 1) (vs ++ [u])) (hg : W.grownBy W1 rv.ownBlock) : FrT W1 B v' (ls ++ [r]) := by
  have row : ∀ {u : Value} {xs : List Int}, RdN W B u xs → RdN W1 B u xs := fun {u xs} hr => by
    obtain ⟨g, cap, cs, fr, e2, e3, e4, e5, e6⟩ := hr
    refine ⟨g, cap, cs, fr, e2, e3, e4, ?_, e6⟩
    rw [hg.block g (Array.getElem?_eq_some_iff.1 e5).1 fun e => ?_]
    · exact e5
    · rcases h1.2 with ⟨q1, -⟩ | ⟨g2, cap2, cur2, q1, -, q3, -⟩
      · rw [q1] at e; cases e
      · rw [q1] at e
        injection e with e
        rw [e, q3] at e5
        injection e5 with e5
        injection e5 with a1 a2 a3
        exact absurd a2 (by decide)
  have hvl : vs.length = ls.length := by have := h1.1; omega
  refine ⟨vs ++ [u], by rw [List.length_append]; exact hown, fun j hj => ?_⟩
  by_cases hlt : j < ls.length
  · obtain ⟨x, h3, h4⟩ := h2 j hlt
    exact ⟨x, by rw [List.getElem?_append_left (by omega)]; exact h3, by rw [List.getElem_append_left hlt]; exact row h4⟩
  · have hje : j = ls.length := by simp at hj; omega
    subst hje
    exact ⟨u, by rw [List.getElem?_append_right (by omega), hvl, Nat.sub_self]; rfl, by rw [List.getElem_append_right (Nat.le_refl _)]; simpa using row hu⟩
theorem FrT.rdl {w : World} {B : Nat} {v : Value} {ls : List (List Int)} (h : FrT w B v ls) : RdL w v ls := by
  obtain ⟨vs, ⟨h1, h2⟩, h3⟩ := h
  rcases h2 with ⟨rfl, h2⟩ | ⟨g, cap, cur, rfl, q1, q2, q3, q4, q5, q6⟩
  · exact .inl ⟨rfl, List.length_eq_zero_iff.1 h2⟩
  · refine .inr ⟨_, g, 0, cap, rfl, q3, fun _ => rfl, fun j hj => ?_⟩
    obtain ⟨u, e1, e2⟩ := h3 j hj
    refine ⟨u, ?_, ?_⟩
    · rw [cell_of_row w g (0 + j) cur _ _ q2, Nat.zero_add, ← Array.getElem?_toList, ← e1, ← q6, List.getElem?_take_of_lt (by omega)]
    · rw [List.getElem?_eq_getElem hj]; exact e2.rd
/-- a text's bytes as a row -/
theorem rdn_new (xs : List Int) (hx : Bytes xs) (w : World) (B : Nat) (hB : B ≤ w.heap.size) : RdN (Lib.bytesWorld w 5 (strOfNums xs)) B (.slice (some ⟨w.heap.size, 0, none⟩) (strOfNums xs).size (grownCap w (strOfNums xs).size 0 5)) xs := by
  have hn := nums_str xs hx
  have hs := strOfNums_size xs
  refine ⟨w.heap.size, grownCap w (strOfNums xs).size 0 5, _, _, by rw [hs], by rw [← hs]; exact grownCap_ge w _ 0 5, hB, Lib.bytesWorld_at_new w 5 _, fun j hj => ?_⟩
  rw [← cell_of_row _ _ j _ _ _ (Lib.bytesWorld_at_new w 5 (strOfNums xs)), Lib.bytesWorld_cell w 5 _ j (by omega)]
  have hj2 : j < (strOfNums xs).data.toList.length := by rw [Array.length_toList]; show j < (strOfNums xs).size; omega
  have h1 : xs[j]?.getD 0 = (numsOf (strOfNums xs))[j]?.getD 0 := by rw [hn]
  rw [h1]
  simp only [numsOf, List.getElem?_map, List.getElem?_eq_getElem hj2, List.getD_eq_getElem?_getD]
  rfl
def SoundT (f : Int) (xs : List Int) (B : Nat) (e : Ending) (w' : World) : Prop :=
  match lookI f xs with
  | none => e = .returned (.tuple #[.int .u64 0, .slice none 0 0, .int .i64 0])
  | some (g, ls) => ∃ v, e = .returned (.tuple #[.int .u64 g, v, .int .i64 (44 + sizeI ls : Nat)]) ∧ FrT w' B v ls
theorem soundT_none {f : Int} {xs : List Int} (h : lookI f xs = none) (B : Nat) (w' : World) : SoundT f xs B (.returned (.tuple #[.int .u64 0, .slice none 0 0, .int .i64 0])) w' := by
  unfold SoundT; rw [h]
def SInv (w : World) (xs : List Int) (gg : Int) (lv gv : Value) (W : World) : Prop := ∃ (pre : List (List Int)) (j fuel : Nat), gv = .int .i64 j ∧ j = 44 + sizeI pre ∧ j ≤ xs.length ∧ (xs.drop j).length ≤ fuel ∧ wholeI gg (xs.drop 44) = pre ++ wholeF gg fuel pre.length (xs.drop j) ∧ FrT W w.heap.size lv pre ∧ Below w.heap.size w W
theorem size_len2' : ∀ ls : List (List Int), 36 * ls.length ≤ sizeI ls
  | [] => by simp [sizeI]
  | r :: t => by have := size_len2' t; simp only [sizeI, List.length_cons]; omega
theorem whole_step {g : Int} {b : List Int} {k : Int} {fuel : Nat} {pre : List (List Int)} {W : List (List Int)} (hb : Bytes b) (hf : b.length ≤ fuel) (hw : W = pre ++ wholeF g fuel k b) {r t : List Int} (h : nxt g k b = some (r, t)) :
    ∃ f2, t.length ≤ f2 ∧ W = (pre ++ [r]) ++ wholeF g f2 (k + 1) t ∧ t = b.drop (r.length + 36) ∧ r.length + 36 ≤ b.length := by
  obtain ⟨z, h1, h2, h3, h4, h5, h6, h7⟩ := nxt_some hb h
  obtain ⟨f2, rfl⟩ : ∃ f2, fuel = f2 + 1 := ⟨fuel - 1, by omega⟩
  refine ⟨f2, by rw [h5, List.length_drop]; omega, ?_, by rw [h6]; exact h5, by omega⟩
  rw [hw, wholeF, h]
  simp
set_option maxRecDepth 100000 in
set_option maxHeartbeats 2000000 in
theorem sound_c (f : Int) (xs : List Int) (w : World) (hx : Bytes xs) (hl : xs.length ≤ 1000000) :
    Calls Tryd.prog 23 #[.string (strOfNums xs), .int .i64 f] w fun e w' => SoundT f xs w.heap.size e w' ∧ Below w.heap.size w w' := by
  have hsz := strOfNums_size xs
  by_cases h44 : xs.length < 44
  · have hn : lookI f xs = none := by unfold lookI; rw [if_pos h44]
    have HN := Lib.hid (fun W => soundT_none hn w.heap.size W)
    have hd : decide ((xs.length : Int) < 44) = true := decide_eq_true (by omega)
    clear hn
    generalize strOfNums xs = s at *
    go_enter Tryd.func23, Tryd.ntmps23
    go_upto_region 1 with fail
    go_region
    all_goals go_wp2
    go_ret3
    exact ⟨HN.out _, (Below.refl _ _).drew⟩
  have hd0 : decide ((xs.length : Int) < 44) = false := decide_eq_false (by omega)
  have w0 : (44 : Int) ≤ xs.length := by omega
  have w1 : (12 : Int) ≤ xs.length := by omega
  have w2 : (8 : Int) ≤ xs.length := by omega
  have e12 : (strOfNums xs).extract 0 12 = strOfNums (xs.take 12) := by rw [str_cut]; rfl
  have e44 : (strOfNums xs).extract 12 44 = strOfNums ((xs.drop 12).take 32) := by rw [str_cut]
  have e8 : (strOfNums xs).extract 0 8 = strOfNums (xs.take 8) := by rw [str_cut]; rfl
  have e812 : (strOfNums xs).extract 8 12 = strOfNums ((xs.drop 8).take 4) := by rw [str_cut]
  have hck := Lib.hid (fun W => rcheck_c (xs.take 12) W (hx.take 12) (by rw [List.length_take]; omega))
  have hn8 := Lib.hid (fun W => rnumber_c (xs.take 8) W (hx.take 8) (by rw [List.length_take]; omega))
  have hn4 := Lib.hid (fun W => rnumber_c ((xs.drop 8).take 4) W ((hx.drop 8).take 4) (by rw [List.length_take]; omega))
  have hbq := str_beq (chk (xs.take 12)) ((xs.drop 12).take 32) (chk_bytes _) ((hx.drop 12).take 32) (decide (chk (xs.take 12) = (xs.drop 12).take 32)) (by rw [decide_eq_true_iff])
  by_cases hc : chk (xs.take 12) = (xs.drop 12).take 32
  case neg =>
    have hn : lookI f xs = none := by unfold lookI; rw [if_neg h44, if_pos hc]
    have HN := Lib.hid (fun W => soundT_none hn w.heap.size W)
    rw [decide_eq_false hc] at hbq
    obtain ⟨q1, q2⟩ := hbq
    clear hn hc
    generalize strOfNums (chk (xs.take 12)) = s1 at *
    generalize strOfNums ((xs.drop 12).take 32) = s2 at *
    generalize strOfNums (xs.take 12) = s3 at *
    generalize strOfNums xs = s at *
    go_enter Tryd.func23, Tryd.ntmps23
    go_upto_region 1 with fail
    go_region_held3 (fun _ => True) (trivial) (first | (go_at_call 54; (with_reducible refine (hck.out _).mono ?_); rintro e w2 ⟨rfl, b2⟩) | fail)
    go_wp2
    go_ret3
    exact ⟨HN.out _, bel_call (Below.refl _ w).drew b2⟩
  rw [decide_eq_true hc] at hbq
  obtain ⟨q1, q2⟩ := hbq
  have hg := ofBytes_bd _ (hx.take 8)
  have hl8 : (xs.take 8).length = 8 := by rw [List.length_take]; omega
  rw [hl8] at hg
  have hg1 := hg.1
  have hlk : lookI f xs = if ofBytes (xs.take 8) < 1 ∨ 4611686018427387904 < ofBytes (xs.take 8) ∨ ofBytes (xs.take 8) % 2 ≠ f then none
    else if ((wholeI (ofBytes (xs.take 8)) (xs.drop 44)).length : Int) < ofBytes ((xs.drop 8).take 4) then none
    else some (ofBytes (xs.take 8), wholeI (ofBytes (xs.take 8)) (xs.drop 44)) := by
    unfold lookI; rw [if_neg h44, if_neg (not_not_intro hc)]
  generalize ofBytes (xs.take 8) = gg at *
  clear hc hg hl8
  by_cases hbad : gg < 1 ∨ 4611686018427387904 < gg ∨ gg % 2 ≠ f
  · rw [if_pos hbad] at hlk
    have HN := Lib.hid (fun W => soundT_none hlk w.heap.size W)
    clear hlk
    have hwm : IntKind.i64.wrap (gg % 2) = gg % 2 := by rw [IntKind.wrap_i64]; omega
    have HX := Lib.hid hx
    clear hx e812 hn4
    generalize strOfNums (chk (xs.take 12)) = s1 at *
    generalize strOfNums ((xs.drop 12).take 32) = s2 at *
    generalize strOfNums (xs.take 12) = s3 at *
    generalize strOfNums (xs.take 8) = s4 at *
    generalize strOfNums xs = s at *
    by_cases h1 : gg < 1
    · have hd1 : decide (gg < 1) = true := decide_eq_true h1
      clear hbad
      go_enter Tryd.func23, Tryd.ntmps23
      go_upto_region 1 with fail
      go_region_held3 (fun _ => True) (trivial) (first | (go_at_call 54; (with_reducible refine (hck.out _).mono ?_); rintro e w2 ⟨rfl, b2⟩) | fail)
      go_wp2_with (first | (go_at_call 55; (with_reducible refine (hn8.out _).mono ?_); rintro e w3 ⟨rfl, hw3⟩; obtain rfl := hw3.symm) | fail)
      go_ret3
      exact ⟨HN.out _, bel_call (Below.refl _ w).drew b2⟩
    · have hd1 : decide (gg < 1) = false := decide_eq_false h1
      by_cases h2 : 4611686018427387904 < gg
      · have hd2 : decide (4611686018427387904 < gg) = true := decide_eq_true h2
        clear hbad h2
        go_enter Tryd.func23, Tryd.ntmps23
        go_upto_region 1 with fail
        go_region_held3 (fun _ => True) (trivial) (first | (go_at_call 54; (with_reducible refine (hck.out _).mono ?_); rintro e w2 ⟨rfl, b2⟩) | fail)
        go_wp2_with (first | (go_at_call 55; (with_reducible refine (hn8.out _).mono ?_); rintro e w3 ⟨rfl, hw3⟩; obtain rfl := hw3.symm) | fail)
        go_ret3
        exact ⟨HN.out _, bel_call (Below.refl _ w).drew b2⟩
      · have hd2 : decide (4611686018427387904 < gg) = false := decide_eq_false h2
        have hm : (gg % 2 == f) = false := beq_false_of_ne (by omega)
        clear hbad h2
        go_enter Tryd.func23, Tryd.ntmps23
        go_upto_region 1 with fail
        go_region_held3 (fun _ => True) (trivial) (first | (go_at_call 54; (with_reducible refine (hck.out _).mono ?_); rintro e w2 ⟨rfl, b2⟩) | fail)
        go_wp2_with (first | (go_at_call 55; (with_reducible refine (hn8.out _).mono ?_); rintro e w3 ⟨rfl, hw3⟩; obtain rfl := hw3.symm) | fail)
        go_ret3
        exact ⟨HN.out _, bel_call (Below.refl _ w).drew b2⟩
  · rw [if_neg hbad] at hlk
    have hwm : IntKind.i64.wrap (gg % 2) = gg % 2 := by rw [IntKind.wrap_i64]; omega
    have hd1 : decide (gg < 1) = false := decide_eq_false (by omega)
    have hd2 : decide (4611686018427387904 < gg) = false := decide_eq_false (by omega)
    have hm : (gg % 2 == f) = true := beq_iff_eq.2 (by omega)
    have hne : (gg % 2 != f) = false := by rw [bne, hm]; rfl
    have HLK := Lib.hid hlk
    have hb4 := ofBytes_bd _ ((hx.drop 8).take 4)
    have hb40 := hb4.1
    have HX := Lib.hid hx
    have hfst := Lib.hid (fun (k : Nat) (hk : k ≤ 1000000) (j : Nat) W => first_c gg k (xs.drop j) W (by omega) (hx.drop j) (by rw [List.length_drop]; omega))
    have hcutj := Lib.hid (fun j => show (strOfNums xs).extract j (strOfNums xs).size = strOfNums (xs.drop j) by rw [str_cut, strOfNums_size, List.take_of_length_le (by rw [List.length_drop]; omega)])
    generalize hcount : ofBytes ((xs.drop 8).take 4) = cnt at *
    clear hbad hx hlk hb4 hcount
    generalize strOfNums (chk (xs.take 12)) = s1 at *
    generalize strOfNums ((xs.drop 12).take 32) = s2 at *
    generalize strOfNums (xs.take 12) = s3 at *
    generalize strOfNums (xs.take 8) = s4 at *
    generalize strOfNums ((xs.drop 8).take 4) = s5 at *
    generalize strOfNums xs = s at *
    go_enter Tryd.func23, Tryd.ntmps23
    go_upto_region 1 with fail
    go_region_held3 (fun _ => True) (trivial) (first | (go_at_call 54; (with_reducible refine (hck.out _).mono ?_); rintro e w2 ⟨rfl, b2⟩) | fail)
    have HB2 := Lib.hid (bel_call (Below.refl _ w).drew b2)
    clear b2
    go_upto_region 8 with (first | (go_at_call 55; (with_reducible refine (hn8.out _).mono ?_); rintro e w3 ⟨rfl, hw3⟩; obtain rfl := hw3.symm) | fail)
    go_loopw [8, 9, 10, 11] (fun lv gv rv iv W => SInv w xs gg lv gv W) (fun _ gv _ _ _ => xs.length - (intOf gv).toNat)
    case atStart => exact ⟨[], 44, (xs.drop 44).length, rfl, rfl, by omega, Nat.le_refl _, by simp [wholeI], FrT.nil _ _, HB2.out⟩
    case round =>
      obtain ⟨pre, j, fuel, rfl, hj, hjl, hfu, hwh, hF, hB⟩ := hrel
      obtain ⟨pq, cq, rfl⟩ : ∃ p c, u8 = .slice p pre.length c := by
        obtain ⟨vs, ho, -⟩ := hF
        exact own_shape ho
      have hpl : pre.length ≤ 1000000 := by have := size_len2' pre; omega
      have hwl : IntKind.u64.wrap (pre.length : Int) = pre.length := by rw [IntKind.wrap_u64]; omega
      have j0 : (0 : Int) ≤ j := by omega
      have j1 : (j : Int) ≤ xs.length := by omega
      by_cases hlt : j < xs.length
      · have hfc := hfst.out pre.length hpl j
        have hcj := hcutj.out j
        rw [hsz] at hcj
        unfold FirstT at hfc
        generalize strOfNums (xs.drop j) = sj at *
        cases hnx : nxt gg pre.length (xs.drop j) with
        | none =>
          have hW : wholeI gg (xs.drop 44) = pre := by rw [hwh, wholeF_none hnx, List.append_nil]
          have HFC := Lib.hid (fun W => show Calls Tryd.prog 56 #[.string sj, .int .u64 gg, .int .i64 pre.length] W fun e w' => (∃ s, e = .returned (.tuple #[.string s, .bool false])) ∧ Below W.heap.size W w' by have := hfc W; rw [hnx] at this; exact this)
          have HJ := Lib.hid hj
          clear hfc hnx hwh hfu hj
          go_upto_region 13 with (first | (go_at_call 56; go_loud (with_reducible refine (HFC.out _).mono ?_); rintro e w4 ⟨⟨sq, rfl⟩, b4⟩) | fail)
          have hFx := hF.keep b4
          have hBx := bel_call hB b4
          have hlk := HLK.out
          rw [hW] at hlk
          have HF := Lib.hid hFx; have HBX := Lib.hid hBx
          clear hFx hBx
          by_cases hcnt : (pre.length : Int) < cnt
          · rw [if_pos hcnt] at hlk
            have HN := Lib.hid (fun W => soundT_none hlk w.heap.size W)
            have hd3 : decide ((pre.length : Int) < cnt) = true := decide_eq_true hcnt
            clear hlk hcnt
            go_wp2_with (first | (go_at_call 55; (with_reducible refine (hn4.out _).mono ?_); rintro e w5 ⟨rfl, hw5⟩; obtain rfl := hw5.symm) | fail)
            go_ret3
            exact ⟨HN.out _, HBX.out⟩
          · rw [if_neg hcnt] at hlk
            have HN := Lib.hid (show SoundT f xs w.heap.size (.returned (.tuple #[.int .u64 gg, .slice pq pre.length cq, .int .i64 (j : Nat)])) w4 from by unfold SoundT; rw [hlk]; exact ⟨_, by rw [HJ.out], HF.out⟩)
            have hd3 : decide ((pre.length : Int) < cnt) = false := decide_eq_false hcnt
            clear hlk hcnt
            go_wp2_with (first | (go_at_call 55; (with_reducible refine (hn4.out _).mono ?_); rintro e w5 ⟨rfl, hw5⟩; obtain rfl := hw5.symm) | fail)
            go_ret3
            exact ⟨HN.out, HBX.out⟩
        | some rt =>
          obtain ⟨r, t⟩ := rt
          obtain ⟨f2, hf2, hw2, ht, hrl⟩ := whole_step (HX.out.drop j) hfu hwh hnx
          obtain ⟨z, -, -, -, hz4, -, -, -⟩ := nxt_some (HX.out.drop j) hnx
          have hrb : Bytes r := by rw [hz4]; exact ((HX.out.drop j).take _).drop _
          have hrs := strOfNums_size r
          have HNW := Lib.hid (fun W3 hW3 => rdn_new r hrb W3 w.heap.size hW3)
          have hconv := fun W => Lib.run_convert_string_bytes (P := Tryd.prog) W 9 35 5 (strOfNums r) Tryd.underlying9 Tryd.underlying35 Tryd.underlying5
          have HFC := Lib.hid (fun W => show Calls Tryd.prog 56 #[.string sj, .int .u64 gg, .int .i64 pre.length] W fun e w' => e = .returned (.tuple #[.string (strOfNums r), .bool true]) ∧ Below W.heap.size W w' by have := hfc W; rw [hnx] at this; exact this)
          rw [List.length_drop] at hrl
          have HHR := Lib.hid hz4
          have hww1 : IntKind.i64.wrap ((j : Int) + r.length) = (j : Int) + r.length := by rw [IntKind.wrap_i64]; omega
          have hww2 : IntKind.i64.wrap ((j : Int) + r.length + 36) = (j : Int) + r.length + 36 := by rw [IntKind.wrap_i64]; omega
          have HREL := Lib.hid (show ∃ j2 f3 : Nat, ((j : Int) + r.length + 36) = j2 ∧ j2 = 44 + sizeI (pre ++ [r]) ∧ j2 ≤ xs.length ∧ (xs.drop j2).length ≤ f3 ∧ wholeI gg (xs.drop 44) = (pre ++ [r]) ++ wholeF gg f3 (pre ++ [r]).length (xs.drop j2) from
            ⟨j + (r.length + 36), f2, by omega, by rw [sizeI_append]; simp only [sizeI]; omega, by omega, by rw [ht, List.drop_drop] at hf2; exact hf2, by rw [hw2, ht, List.drop_drop, List.length_append]; rfl⟩)
          clear hfc hnx hwh hfu hw2 ht hf2 hz4 hrb hj
          generalize strOfNums r = sr at *
          obtain ⟨i0, hi, hz0, hz1, hz2⟩ := info_parts Tryd.info35
          go_upto_region 11 with (first | (go_at_call 56; go_loud (with_reducible refine (HFC.out _).mono ?_); rintro e w4 ⟨rfl, b4⟩) | fail)
          have hb5 : Below wr.heap.size wr (Lib.bytesWorld w4 5 sr) := bel_call b4 ⟨rfl, rfl, rfl, by rw [Lib.bytesWorld_size]; omega, Lib.bytesWorld_at_old w4 5 sr⟩
          have hB4 := bel_call hB b4
          have hu5 := HNW.out w4 hB4.size
          have hcv := hconv w4
          clear hconv
          generalize grownCap w4 sr.size 0 5 = cn at *
          generalize Lib.bytesWorld w4 5 sr = w5 at *
          rw [hrs] at hu5 hcv
          have hb6 := bel_alloc hb5 (.cells #[.slice (some ⟨w4.heap.size, 0, none⟩) r.length cn] 35)
          obtain ⟨vs, ho6, hr6⟩ := hF.keep hb6
          have hB6 := bel_call hB hb6
          have hs6 := hB6.size
          have hu6 := hu5.keep (bel_alloc (Below.refl w5.heap.size w5) (.cells #[.slice (some ⟨w4.heap.size, 0, none⟩) r.length cn] 35))
          have HR6 := Lib.hid hr6; have HU6 := Lib.hid hu6; have HB6 := Lib.hid hB6
          clear hr6 hu6 hu5 hb5 hB4 hF hB b4 hB6
          go_upto_region 12 with (first
            | (at_builtin; go_loud (refine wpList_append_own_at _ rfl _ _ 30 rfl w.heap.size 35 i0 (.slice none 0 0) 1 24 Tryd.underlying30 hi hz0 hz1 hz2 rfl (by decide) _ pre.length vs rfl ho6 ⟨w5.heap.size, 0, none⟩ 1 1 [.slice (some ⟨w4.heap.size, 0, none⟩) r.length cn] rfl rfl (cell_one_new _ _ _) (by simp [Value.oneCell']) (by unfold maxLen; omega) (by omega) hs6 ?_); intro v7 w7 hown7 hgrow7 hnn7 hat7; clear hnn7 hat7)
            | fail)
          have hF7 := FrT.snoc ho6 HR6.out HU6.out hown7 hgrow7
          have hB7 := HB6.out.grown hgrow7 hs6 fun j hj => (ho6.lt j hj).1
          have HF7 := Lib.hid hF7; have HB7 := Lib.hid hB7
          clear hF7 hB7 hown7 hgrow7 ho6
          have HSI := Lib.hid (show SInv w xs gg v7 (.int .i64 ((j : Int) + r.length + 36)) w7 from by
            obtain ⟨j2, f3, q1, q2, q3, q4, q5⟩ := HREL.out
            exact ⟨pre ++ [r], j2, f3, by rw [q1], q2, q3, q4, q5, HF7.out, HB7.out⟩)
          clear HREL HF7 HB7
          go_wp2
          exact ⟨HSI.out, by simp [intOf]; omega⟩
      · obtain rfl : j = xs.length := by omega
        have hW : wholeI gg (xs.drop 44) = pre := by rw [hwh, List.drop_length, wholeF_none (nxt_nil _ _), List.append_nil]
        have hFx := hF
        have hBx := hB
        have HJ := Lib.hid hj
        clear hwh hfu hj
        have hlk := HLK.out
        rw [hW] at hlk
        have HF := Lib.hid hFx; have HBX := Lib.hid hBx
        clear hFx hBx
        by_cases hcnt : (pre.length : Int) < cnt
        · rw [if_pos hcnt] at hlk
          have HN := Lib.hid (fun W => soundT_none hlk w.heap.size W)
          have hd3 : decide ((pre.length : Int) < cnt) = true := decide_eq_true hcnt
          clear hlk hcnt
          go_wp2_with (first | (go_at_call 55; (with_reducible refine (hn4.out _).mono ?_); rintro e w5 ⟨rfl, hw5⟩; obtain rfl := hw5.symm) | fail)
          go_ret3
          exact ⟨HN.out _, HBX.out⟩
        · rw [if_neg hcnt] at hlk
          have HN := Lib.hid (show SoundT f xs w.heap.size (.returned (.tuple #[.int .u64 gg, .slice pq pre.length cq, .int .i64 (xs.length : Nat)])) wr from by unfold SoundT; rw [hlk]; exact ⟨_, by rw [HJ.out], HF.out⟩)
          have hd3 : decide ((pre.length : Int) < cnt) = false := decide_eq_false hcnt
          clear hlk hcnt
          go_wp2_with (first | (go_at_call 55; (with_reducible refine (hn4.out _).mono ?_); rintro e w5 ⟨rfl, hw5⟩; obtain rfl := hw5.symm) | fail)
          go_ret3
          exact ⟨HN.out, HBX.out⟩
end Go.Proofs.YtfohemgfiidokaaDoor
