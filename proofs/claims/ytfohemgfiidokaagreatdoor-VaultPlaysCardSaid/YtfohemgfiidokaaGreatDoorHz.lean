/- The document's Sound. The document's cut and begin, alike with the program's. The document's Open, alike with the program's. -/
import Derived.Test.YtfohemgfiidokaaGreatDoorNz
import Derived.Test.YtfohemgfiidokaaGreatDoorYw
import Derived.Test.YtfohemgfiidokaaGreatDoorGz
import Derived.Test.YtfohemgfiidokaaGreatDoorYx
import Derived.Lib.SmallJoins
import Derived.Test.YtfohemgfiidokaaGreatDoorQz
namespace Go.Proofs.YtfohemgfiidokaaGreatDoor
open Go.RowKit Go.Sort

/-- bytes in a block of the call's own -/
def RdN (w : World) (B : Nat) (u : Value) (r : List Int) : Prop :=
  ∃ g cap cs fr, u = .slice (some ⟨g, 0, none⟩) r.length cap ∧ r.length ≤ cap ∧ B ≤ g ∧ w.heap[g]? = some (.cells cs 5 fr) ∧ ∀ j, j < r.length → cs[j]? = some (.int .u8 (r[j]?.getD 0))
theorem RdN.rd {w : World} {B : Nat} {u : Value} {r : List Int} (h : RdN w B u r) : RdB w u r := by
  obtain ⟨g, cap, cs, fr, h1, h2, h3, h4, h5⟩ := h
  exact .inr ⟨_, g, 0, cap, h1, h2, fun _ => rfl, fun j hj => by rw [Nat.zero_add, cell_of_row w g j cs _ _ h4]; exact h5 j hj⟩
theorem RdN.keep {w w' : World} {B : Nat} {u : Value} {r : List Int} (h : RdN w B u r) (hb : Below w.heap.size w w') : RdN w' B u r := by
  obtain ⟨g, cap, cs, fr, q1, q2, q3, q4, q5⟩ := h
  exact ⟨g, cap, cs, fr, q1, q2, q3, (hb.block g (Array.getElem?_eq_some_iff.1 q4).1).trans q4, q5⟩
/-- a list of such rows, itself the call's own -/
def FrT (w : World) (B : Nat) (v : Value) (ls : List (List Int)) : Prop :=
  ∃ vs : List Value, w.ownsRow B 40 1 v ls.length vs ∧ ∀ j (h : j < ls.length), ∃ u, vs[j]? = some u ∧ RdN w B u ls[j]
theorem FrT.nil (w : World) (B : Nat) : FrT w B (.slice none 0 0) [] := ⟨[], World.ownsRow_nil _ _ _ _, fun j hj => by simp at hj⟩
theorem FrT.keep {w w' : World} {B : Nat} {v : Value} {ls : List (List Int)} (h : FrT w B v ls) (hb : Below w.heap.size w w') : FrT w' B v ls := by
  obtain ⟨vs, h1, h2⟩ := h
  refine ⟨vs, ownsRow_keep h1 hb, fun j hj => ?_⟩
  obtain ⟨u, h3, g, cap, cs, fr, q1, q2, q3, q4, q5⟩ := h2 j hj
  exact ⟨u, h3, g, cap, cs, fr, q1, q2, q3, (hb.block g (Array.getElem?_eq_some_iff.1 q4).1).trans q4, q5⟩
theorem FrT.snoc {W W1 : World} {B : Nat} {vs : List Value} {rv v' u : Value} {ls : List (List Int)} {r : List Int} (h1 : W.ownsRow B 40 1 rv ls.length vs) (h2 : ∀ j (h : j < ls.length), ∃ u, vs[j]? = some u ∧ RdN W B u ls[j]) (hu : RdN W B u r)
    (hown : W1.ownsRow B 40 1 v' (ls.length + 1) (vs ++ [u])) (hg : W.grownBy W1 rv.ownBlock) : FrT W1 B v' (ls ++ [r]) := by
  have row : ∀ {u : Value} {xs : List Int}, RdN W B u xs → RdN W1 B u xs := fun {u xs} hr => by
    obtain ⟨g, cap, cs, fr, e2, e3, e4, e5, e6⟩ := hr
    refine ⟨g, cap, cs, fr, e2, e3, e4, ?_, e6⟩
    rw [hg.block g (Array.getElem?_eq_some_iff.1 e5).1 fun e => ?_]
    · exact e5
    · rcases h1.2 with ⟨q1, -⟩ | ⟨g2, cap2, cur2, q1, -, q3, -⟩
      · rw [q1] at e; cases e
      · rw [q1] at e
        injection e with e
        rw [e, q3] at e5
        injection e5 with e5
        injection e5 with a1 a2 a3
        exact absurd a2 (by decide)
  have hvl : vs.length = ls.length := by have := h1.1; omega
  refine ⟨vs ++ [u], by rw [List.length_append]; exact hown, fun j hj => ?_⟩
  by_cases hlt : j < ls.length
  · obtain ⟨x, h3, h4⟩ := h2 j hlt
    exact ⟨x, by rw [List.getElem?_append_left (by omega)]; exact h3, by rw [List.getElem_append_left hlt]; exact row h4⟩
  · have hje : j = ls.length := by simp at hj; omega
    subst hje
    exact ⟨u, by rw [List.getElem?_append_right (by omega), hvl, Nat.sub_self]; rfl, by rw [List.getElem_append_right (Nat.le_refl _)]; simpa using row hu⟩
theorem FrT.rdl {w : World} {B : Nat} {v : Value} {ls : List (List Int)} (h : FrT w B v ls) : RdL w v ls := by
  obtain ⟨vs, ⟨h1, h2⟩, h3⟩ := h
  rcases h2 with ⟨rfl, h2⟩ | ⟨g, cap, cur, rfl, q1, q2, q3, q4, q5, q6⟩
  · exact .inl ⟨rfl, List.length_eq_zero_iff.1 h2⟩
  · refine .inr ⟨_, g, 0, cap, rfl, q3, fun _ => rfl, fun j hj => ?_⟩
    obtain ⟨u, e1, e2⟩ := h3 j hj
    refine ⟨u, ?_, ?_⟩
    · rw [cell_of_row w g (0 + j) cur _ _ q2, Nat.zero_add, ← Array.getElem?_toList, ← e1, ← q6, List.getElem?_take_of_lt (by omega)]
    · rw [List.getElem?_eq_getElem hj]; exact e2.rd
/-- a text's bytes as a row -/
theorem rdn_new (xs : List Int) (hx : Bytes xs) (w : World) (B : Nat) (hB : B ≤ w.heap.size) : RdN (Lib.bytesWorld w 5 (strOfNums xs)) B (.slice (some ⟨w.heap.size, 0, none⟩) (strOfNums xs).size (grownCap w (strOfNums xs).size 0 5)) xs := by
  have hn := nums_str xs hx
  have hs := strOfNums_size xs
  refine ⟨w.heap.size, grownCap w (strOfNums xs).size 0 5, _, _, by rw [hs], by rw [← hs]; exact grownCap_ge w _ 0 5, hB, Lib.bytesWorld_at_new w 5 _, fun j hj => ?_⟩
  rw [← cell_of_row _ _ j _ _ _ (Lib.bytesWorld_at_new w 5 (strOfNums xs)), Lib.bytesWorld_cell w 5 _ j (by omega)]
  have hj2 : j < (strOfNums xs).data.toList.length := by rw [Array.length_toList]; show j < (strOfNums xs).size; omega
  have h1 : xs[j]?.getD 0 = (numsOf (strOfNums xs))[j]?.getD 0 := by rw [hn]
  rw [h1]
  simp only [numsOf, List.getElem?_map, List.getElem?_eq_getElem hj2, List.getD_eq_getElem?_getD]
  rfl
def SoundT (f : Int) (xs : List Int) (B : Nat) (e : Ending) (w' : World) : Prop :=
  match lookI f xs with
  | none => e = .returned (.tuple #[.int .u64 0, .slice none 0 0, .int .i64 0])
  | some (g, ls) => ∃ v, e = .returned (.tuple #[.int .u64 g, v, .int .i64 (44 + sizeI ls : Nat)]) ∧ FrT w' B v ls
theorem soundT_none {f : Int} {xs : List Int} (h : lookI f xs = none) (B : Nat) (w' : World) : SoundT f xs B (.returned (.tuple #[.int .u64 0, .slice none 0 0, .int .i64 0])) w' := by
  unfold SoundT; rw [h]
def SInv (w : World) (xs : List Int) (gg : Int) (lv gv : Value) (W : World) : Prop := ∃ (pre : List (List Int)) (j fuel : Nat), gv = .int .i64 j ∧ j = 44 + sizeI pre ∧ j ≤ xs.length ∧ (xs.drop j).length ≤ fuel ∧ wholeI gg (xs.drop 44) = pre ++ wholeF gg fuel pre.length (xs.drop j) ∧ FrT W w.heap.size lv pre ∧ Below w.heap.size w W
theorem size_len2' : ∀ ls : List (List Int), 36 * ls.length ≤ sizeI ls
  | [] => by simp [sizeI]
  | r :: t => by have := size_len2' t; simp only [sizeI, List.length_cons]; omega
theorem whole_step {g : Int} {b : List Int} {k : Int} {fuel : Nat} {pre : List (List Int)} {W : List (List Int)} (hb : Bytes b) (hf : b.length ≤ fuel) (hw : W = pre ++ wholeF g fuel k b) {r t : List Int} (h : nxt g k b = some (r, t)) :
    ∃ f2, t.length ≤ f2 ∧ W = (pre ++ [r]) ++ wholeF g f2 (k + 1) t ∧ t = b.drop (r.length + 36) ∧ r.length + 36 ≤ b.length := by
  obtain ⟨z, h1, h2, h3, h4, h5, h6, h7⟩ := nxt_some hb h
  obtain ⟨f2, rfl⟩ : ∃ f2, fuel = f2 + 1 := ⟨fuel - 1, by omega⟩
  refine ⟨f2, by rw [h5, List.length_drop]; omega, ?_, by rw [h6]; exact h5, by omega⟩
  rw [hw, wholeF, h]
  simp
set_option maxRecDepth 100000 in
set_option maxHeartbeats 2000000 in
theorem sound_c (f : Int) (xs : List Int) (w : World) (hx : Bytes xs) (hl : xs.length ≤ 1000000) :
    Calls Tryz.prog 54 #[.string (strOfNums xs), .int .i64 f] w fun e w' => SoundT f xs w.heap.size e w' ∧ Below w.heap.size w w' := by
  have hsz := strOfNums_size xs
  by_cases h44 : xs.length < 44
  · have hn : lookI f xs = none := by unfold lookI; rw [if_pos h44]
    have HN := Lib.hid (fun W => soundT_none hn w.heap.size W)
    have hd : decide ((xs.length : Int) < 44) = true := decide_eq_true (by omega)
    clear hn
    generalize strOfNums xs = s at *
    go_enter Tryz.func54, Tryz.ntmps54
    go_upto_region 1 with fail
    go_region
    all_goals go_wp2
    go_ret3
    exact ⟨HN.out _, (Below.refl _ _).drew⟩
  have hd0 : decide ((xs.length : Int) < 44) = false := decide_eq_false (by omega)
  have w0 : (44 : Int) ≤ xs.length := by omega
  have w1 : (12 : Int) ≤ xs.length := by omega
  have w2 : (8 : Int) ≤ xs.length := by omega
  have e12 : (strOfNums xs).extract 0 12 = strOfNums (xs.take 12) := by rw [str_cut]; rfl
  have e44 : (strOfNums xs).extract 12 44 = strOfNums ((xs.drop 12).take 32) := by rw [str_cut]
  have e8 : (strOfNums xs).extract 0 8 = strOfNums (xs.take 8) := by rw [str_cut]; rfl
  have e812 : (strOfNums xs).extract 8 12 = strOfNums ((xs.drop 8).take 4) := by rw [str_cut]
  have hck := Lib.hid (fun W => rcheck_c (xs.take 12) W (hx.take 12) (by rw [List.length_take]; omega))
  have hn8 := Lib.hid (fun W => rnumber_c (xs.take 8) W (hx.take 8) (by rw [List.length_take]; omega))
  have hn4 := Lib.hid (fun W => rnumber_c ((xs.drop 8).take 4) W ((hx.drop 8).take 4) (by rw [List.length_take]; omega))
  have hbq := str_beq (chk (xs.take 12)) ((xs.drop 12).take 32) (chk_bytes _) ((hx.drop 12).take 32) (decide (chk (xs.take 12) = (xs.drop 12).take 32)) (by rw [decide_eq_true_iff])
  by_cases hc : chk (xs.take 12) = (xs.drop 12).take 32
  case neg =>
    have hn : lookI f xs = none := by unfold lookI; rw [if_neg h44, if_pos hc]
    have HN := Lib.hid (fun W => soundT_none hn w.heap.size W)
    rw [decide_eq_false hc] at hbq
    obtain ⟨q1, q2⟩ := hbq
    clear hn hc
    generalize strOfNums (chk (xs.take 12)) = s1 at *
    generalize strOfNums ((xs.drop 12).take 32) = s2 at *
    generalize strOfNums (xs.take 12) = s3 at *
    generalize strOfNums xs = s at *
    go_enter Tryz.func54, Tryz.ntmps54
    go_upto_region 1 with fail
    go_region_held3 (fun _ => True) (trivial) (first | (go_at_call 86; (with_reducible refine (hck.out _).mono ?_); rintro e w2 ⟨rfl, b2⟩) | fail)
    go_wp2
    go_ret3
    exact ⟨HN.out _, bel_call (Below.refl _ w).drew b2⟩
  rw [decide_eq_true hc] at hbq
  obtain ⟨q1, q2⟩ := hbq
  have hg := ofBytes_bd _ (hx.take 8)
  have hl8 : (xs.take 8).length = 8 := by rw [List.length_take]; omega
  rw [hl8] at hg
  have hg1 := hg.1
  have hlk : lookI f xs = if ofBytes (xs.take 8) < 1 ∨ 4611686018427387904 < ofBytes (xs.take 8) ∨ ofBytes (xs.take 8) % 2 ≠ f then none
    else if ((wholeI (ofBytes (xs.take 8)) (xs.drop 44)).length : Int) < ofBytes ((xs.drop 8).take 4) then none
    else some (ofBytes (xs.take 8), wholeI (ofBytes (xs.take 8)) (xs.drop 44)) := by
    unfold lookI; rw [if_neg h44, if_neg (not_not_intro hc)]
  generalize ofBytes (xs.take 8) = gg at *
  clear hc hg hl8
  by_cases hbad : gg < 1 ∨ 4611686018427387904 < gg ∨ gg % 2 ≠ f
  · rw [if_pos hbad] at hlk
    have HN := Lib.hid (fun W => soundT_none hlk w.heap.size W)
    clear hlk
    have hwm : IntKind.i64.wrap (gg % 2) = gg % 2 := by rw [IntKind.wrap_i64]; omega
    have HX := Lib.hid hx
    clear hx e812 hn4
    generalize strOfNums (chk (xs.take 12)) = s1 at *
    generalize strOfNums ((xs.drop 12).take 32) = s2 at *
    generalize strOfNums (xs.take 12) = s3 at *
    generalize strOfNums (xs.take 8) = s4 at *
    generalize strOfNums xs = s at *
    by_cases h1 : gg < 1
    · have hd1 : decide (gg < 1) = true := decide_eq_true h1
      clear hbad
      go_enter Tryz.func54, Tryz.ntmps54
      go_upto_region 1 with fail
      go_region_held3 (fun _ => True) (trivial) (first | (go_at_call 86; (with_reducible refine (hck.out _).mono ?_); rintro e w2 ⟨rfl, b2⟩) | fail)
      go_wp2_with (first | (go_at_call 87; (with_reducible refine (hn8.out _).mono ?_); rintro e w3 ⟨rfl, hw3⟩; obtain rfl := hw3.symm) | fail)
      go_ret3
      exact ⟨HN.out _, bel_call (Below.refl _ w).drew b2⟩
    · have hd1 : decide (gg < 1) = false := decide_eq_false h1
      by_cases h2 : 4611686018427387904 < gg
      · have hd2 : decide (4611686018427387904 < gg) = true := decide_eq_true h2
        clear hbad h2
        go_enter Tryz.func54, Tryz.ntmps54
        go_upto_region 1 with fail
        go_region_held3 (fun _ => True) (trivial) (first | (go_at_call 86; (with_reducible refine (hck.out _).mono ?_); rintro e w2 ⟨rfl, b2⟩) | fail)
        go_wp2_with (first | (go_at_call 87; (with_reducible refine (hn8.out _).mono ?_); rintro e w3 ⟨rfl, hw3⟩; obtain rfl := hw3.symm) | fail)
        go_ret3
        exact ⟨HN.out _, bel_call (Below.refl _ w).drew b2⟩
      · have hd2 : decide (4611686018427387904 < gg) = false := decide_eq_false h2
        have hm : (gg % 2 == f) = false := beq_false_of_ne (by omega)
        clear hbad h2
        go_enter Tryz.func54, Tryz.ntmps54
        go_upto_region 1 with fail
        go_region_held3 (fun _ => True) (trivial) (first | (go_at_call 86; (with_reducible refine (hck.out _).mono ?_); rintro e w2 ⟨rfl, b2⟩) | fail)
        go_wp2_with (first | (go_at_call 87; (with_reducible refine (hn8.out _).mono ?_); rintro e w3 ⟨rfl, hw3⟩; obtain rfl := hw3.symm) | fail)
        go_ret3
        exact ⟨HN.out _, bel_call (Below.refl _ w).drew b2⟩
  · rw [if_neg hbad] at hlk
    have hwm : IntKind.i64.wrap (gg % 2) = gg % 2 := by rw [IntKind.wrap_i64]; omega
    have hd1 : decide (gg < 1) = false := decide_eq_false (by omega)
    have hd2 : decide (4611686018427387904 < gg) = false := decide_eq_false (by omega)
    have hm : (gg % 2 == f) = true := beq_iff_eq.2 (by omega)
    have hne : (gg % 2 != f) = false := by rw [bne, hm]; rfl
    have HLK := Lib.hid hlk
    have hb4 := ofBytes_bd _ ((hx.drop 8).take 4)
    have hb40 := hb4.1
    have HX := Lib.hid hx
    have hfst := Lib.hid (fun (k : Nat) (hk : k ≤ 1000000) (j : Nat) W => first_c gg k (xs.drop j) W (by omega) (hx.drop j) (by rw [List.length_drop]; omega))
    have hcutj := Lib.hid (fun j => show (strOfNums xs).extract j (strOfNums xs).size = strOfNums (xs.drop j) by rw [str_cut, strOfNums_size, List.take_of_length_le (by rw [List.length_drop]; omega)])
    generalize hcount : ofBytes ((xs.drop 8).take 4) = cnt at *
    clear hbad hx hlk hb4 hcount
    generalize strOfNums (chk (xs.take 12)) = s1 at *
    generalize strOfNums ((xs.drop 12).take 32) = s2 at *
    generalize strOfNums (xs.take 12) = s3 at *
    generalize strOfNums (xs.take 8) = s4 at *
    generalize strOfNums ((xs.drop 8).take 4) = s5 at *
    generalize strOfNums xs = s at *
    go_enter Tryz.func54, Tryz.ntmps54
    go_upto_region 1 with fail
    go_region_held3 (fun _ => True) (trivial) (first | (go_at_call 86; (with_reducible refine (hck.out _).mono ?_); rintro e w2 ⟨rfl, b2⟩) | fail)
    have HB2 := Lib.hid (bel_call (Below.refl _ w).drew b2)
    clear b2
    go_upto_region 8 with (first | (go_at_call 87; (with_reducible refine (hn8.out _).mono ?_); rintro e w3 ⟨rfl, hw3⟩; obtain rfl := hw3.symm) | fail)
    go_loopw [8, 9, 10, 11] (fun lv gv rv iv W => SInv w xs gg lv gv W) (fun _ gv _ _ _ => xs.length - (intOf gv).toNat)
    case atStart => exact ⟨[], 44, (xs.drop 44).length, rfl, rfl, by omega, Nat.le_refl _, by simp [wholeI], FrT.nil _ _, HB2.out⟩
    case round =>
      obtain ⟨pre, j, fuel, rfl, hj, hjl, hfu, hwh, hF, hB⟩ := hrel
      obtain ⟨pq, cq, rfl⟩ : ∃ p c, u8 = .slice p pre.length c := by
        obtain ⟨vs, ho, -⟩ := hF
        exact own_shape ho
      have hpl : pre.length ≤ 1000000 := by have := size_len2' pre; omega
      have hwl : IntKind.u64.wrap (pre.length : Int) = pre.length := by rw [IntKind.wrap_u64]; omega
      have j0 : (0 : Int) ≤ j := by omega
      have j1 : (j : Int) ≤ xs.length := by omega
      by_cases hlt : j < xs.length
      · have hfc := hfst.out pre.length hpl j
        have hcj := hcutj.out j
        rw [hsz] at hcj
        unfold FirstT at hfc
        generalize strOfNums (xs.drop j) = sj at *
        cases hnx : nxt gg pre.length (xs.drop j) with
        | none =>
          have hW : wholeI gg (xs.drop 44) = pre := by rw [hwh, wholeF_none hnx, List.append_nil]
          have HFC := Lib.hid (fun W => show Calls Tryz.prog 88 #[.string sj, .int .u64 gg, .int .i64 pre.length] W fun e w' => (∃ s, e = .returned (.tuple #[.string s, .bool false])) ∧ Below W.heap.size W w' by have := hfc W; rw [hnx] at this; exact this)
          have HJ := Lib.hid hj
          clear hfc hnx hwh hfu hj
          go_upto_region 13 with (first | (go_at_call 88; go_loud (with_reducible refine (HFC.out _).mono ?_); rintro e w4 ⟨⟨sq, rfl⟩, b4⟩) | fail)
          have hFx := hF.keep b4
          have hBx := bel_call hB b4
          have hlk := HLK.out
          rw [hW] at hlk
          have HF := Lib.hid hFx; have HBX := Lib.hid hBx
          clear hFx hBx
          by_cases hcnt : (pre.length : Int) < cnt
          · rw [if_pos hcnt] at hlk
            have HN := Lib.hid (fun W => soundT_none hlk w.heap.size W)
            have hd3 : decide ((pre.length : Int) < cnt) = true := decide_eq_true hcnt
            clear hlk hcnt
            go_wp2_with (first | (go_at_call 87; (with_reducible refine (hn4.out _).mono ?_); rintro e w5 ⟨rfl, hw5⟩; obtain rfl := hw5.symm) | fail)
            go_ret3
            exact ⟨HN.out _, HBX.out⟩
          · rw [if_neg hcnt] at hlk
            have HN := Lib.hid (show SoundT f xs w.heap.size (.returned (.tuple #[.int .u64 gg, .slice pq pre.length cq, .int .i64 (j : Nat)])) w4 from by unfold SoundT; rw [hlk]; exact ⟨_, by rw [HJ.out], HF.out⟩)
            have hd3 : decide ((pre.length : Int) < cnt) = false := decide_eq_false hcnt
            clear hlk hcnt
            go_wp2_with (first | (go_at_call 87; (with_reducible refine (hn4.out _).mono ?_); rintro e w5 ⟨rfl, hw5⟩; obtain rfl := hw5.symm) | fail)
            go_ret3
            exact ⟨HN.out, HBX.out⟩
        | some rt =>
          obtain ⟨r, t⟩ := rt
          obtain ⟨f2, hf2, hw2, ht, hrl⟩ := whole_step (HX.out.drop j) hfu hwh hnx
          obtain ⟨z, -, -, -, hz4, -, -, -⟩ := nxt_some (HX.out.drop j) hnx
          have hrb : Bytes r := by rw [hz4]; exact ((HX.out.drop j).take _).drop _
          have hrs := strOfNums_size r
          have HNW := Lib.hid (fun W3 hW3 => rdn_new r hrb W3 w.heap.size hW3)
          have hconv := fun W => Lib.run_convert_string_bytes (P := Tryz.prog) W 9 40 5 (strOfNums r) Tryz.underlying9 Tryz.underlying40 Tryz.underlying5
          have HFC := Lib.hid (fun W => show Calls Tryz.prog 88 #[.string sj, .int .u64 gg, .int .i64 pre.length] W fun e w' => e = .returned (.tuple #[.string (strOfNums r), .bool true]) ∧ Below W.heap.size W w' by have := hfc W; rw [hnx] at this; exact this)
          rw [List.length_drop] at hrl
          have HHR := Lib.hid hz4
          have hww1 : IntKind.i64.wrap ((j : Int) + r.length) = (j : Int) + r.length := by rw [IntKind.wrap_i64]; omega
          have hww2 : IntKind.i64.wrap ((j : Int) + r.length + 36) = (j : Int) + r.length + 36 := by rw [IntKind.wrap_i64]; omega
          have HREL := Lib.hid (show ∃ j2 f3 : Nat, ((j : Int) + r.length + 36) = j2 ∧ j2 = 44 + sizeI (pre ++ [r]) ∧ j2 ≤ xs.length ∧ (xs.drop j2).length ≤ f3 ∧ wholeI gg (xs.drop 44) = (pre ++ [r]) ++ wholeF gg f3 (pre ++ [r]).length (xs.drop j2) from
            ⟨j + (r.length + 36), f2, by omega, by rw [sizeI_append]; simp only [sizeI]; omega, by omega, by rw [ht, List.drop_drop] at hf2; exact hf2, by rw [hw2, ht, List.drop_drop, List.length_append]; rfl⟩)
          clear hfc hnx hwh hfu hw2 ht hf2 hz4 hrb hj
          generalize strOfNums r = sr at *
          obtain ⟨i0, hi, hz0, hz1, hz2⟩ := info_parts Tryz.info40
          go_upto_region 11 with (first | (go_at_call 88; go_loud (with_reducible refine (HFC.out _).mono ?_); rintro e w4 ⟨rfl, b4⟩) | fail)
          have hb5 : Below wr.heap.size wr (Lib.bytesWorld w4 5 sr) := bel_call b4 ⟨rfl, rfl, rfl, by rw [Lib.bytesWorld_size]; omega, Lib.bytesWorld_at_old w4 5 sr⟩
          have hB4 := bel_call hB b4
          have hu5 := HNW.out w4 hB4.size
          have hcv := hconv w4
          clear hconv
          generalize grownCap w4 sr.size 0 5 = cn at *
          generalize Lib.bytesWorld w4 5 sr = w5 at *
          rw [hrs] at hu5 hcv
          have hb6 := bel_alloc hb5 (.cells #[.slice (some ⟨w4.heap.size, 0, none⟩) r.length cn] 40)
          obtain ⟨vs, ho6, hr6⟩ := hF.keep hb6
          have hB6 := bel_call hB hb6
          have hs6 := hB6.size
          have hu6 := hu5.keep (bel_alloc (Below.refl w5.heap.size w5) (.cells #[.slice (some ⟨w4.heap.size, 0, none⟩) r.length cn] 40))
          have HR6 := Lib.hid hr6; have HU6 := Lib.hid hu6; have HB6 := Lib.hid hB6
          clear hr6 hu6 hu5 hb5 hB4 hF hB b4 hB6
          go_upto_region 12 with (first
            | (at_builtin; go_loud (refine wpList_append_own_at _ rfl _ _ 39 rfl w.heap.size 40 i0 (.slice none 0 0) 1 24 Tryz.underlying39 hi hz0 hz1 hz2 rfl (by decide) _ pre.length vs rfl ho6 ⟨w5.heap.size, 0, none⟩ 1 1 [.slice (some ⟨w4.heap.size, 0, none⟩) r.length cn] rfl rfl (cell_one_new _ _ _) (by simp [Value.oneCell']) (by unfold maxLen; omega) (by omega) hs6 ?_); intro v7 w7 hown7 hgrow7 hnn7 hat7; clear hnn7 hat7)
            | fail)
          have hF7 := FrT.snoc ho6 HR6.out HU6.out hown7 hgrow7
          have hB7 := HB6.out.grown hgrow7 hs6 fun j hj => (ho6.lt j hj).1
          have HF7 := Lib.hid hF7; have HB7 := Lib.hid hB7
          clear hF7 hB7 hown7 hgrow7 ho6
          have HSI := Lib.hid (show SInv w xs gg v7 (.int .i64 ((j : Int) + r.length + 36)) w7 from by
            obtain ⟨j2, f3, q1, q2, q3, q4, q5⟩ := HREL.out
            exact ⟨pre ++ [r], j2, f3, by rw [q1], q2, q3, q4, q5, HF7.out, HB7.out⟩)
          clear HREL HF7 HB7
          go_wp2
          exact ⟨HSI.out, by simp [intOf]; omega⟩
      · obtain rfl : j = xs.length := by omega
        have hW : wholeI gg (xs.drop 44) = pre := by rw [hwh, List.drop_length, wholeF_none (nxt_nil _ _), List.append_nil]
        have hFx := hF
        have hBx := hB
        have HJ := Lib.hid hj
        clear hwh hfu hj
        have hlk := HLK.out
        rw [hW] at hlk
        have HF := Lib.hid hFx; have HBX := Lib.hid hBx
        clear hFx hBx
        by_cases hcnt : (pre.length : Int) < cnt
        · rw [if_pos hcnt] at hlk
          have HN := Lib.hid (fun W => soundT_none hlk w.heap.size W)
          have hd3 : decide ((pre.length : Int) < cnt) = true := decide_eq_true hcnt
          clear hlk hcnt
          go_wp2_with (first | (go_at_call 87; (with_reducible refine (hn4.out _).mono ?_); rintro e w5 ⟨rfl, hw5⟩; obtain rfl := hw5.symm) | fail)
          go_ret3
          exact ⟨HN.out _, HBX.out⟩
        · rw [if_neg hcnt] at hlk
          have HN := Lib.hid (show SoundT f xs w.heap.size (.returned (.tuple #[.int .u64 gg, .slice pq pre.length cq, .int .i64 (xs.length : Nat)])) wr from by unfold SoundT; rw [hlk]; exact ⟨_, by rw [HJ.out], HF.out⟩)
          have hd3 : decide ((pre.length : Int) < cnt) = false := decide_eq_false hcnt
          clear hlk hcnt
          go_wp2_with (first | (go_at_call 87; (with_reducible refine (hn4.out _).mono ?_); rintro e w5 ⟨rfl, hw5⟩; obtain rfl := hw5.symm) | fail)
          go_ret3
          exact ⟨HN.out, HBX.out⟩
end Go.Proofs.YtfohemgfiidokaaGreatDoor
namespace Go.Proofs.YtfohemgfiidokaaGreatDoor
open Go.RowKit Go.Sort

/-- what a call upon the document's disk leaves, alike with the program's -/
def RL (ρ : Nat → Nat) (R : Nat) (w : World) (d : Dk) (k m : Nat) (w' : World) : Prop := ∃ r ρ', Rel d r k m ∧ RefAt w' ρ' R r ∧ Mr ρ ρ' w w'
theorem RL.up {ρ : Nat → Nat} {R : Nat} {w w' : World} {d : Dk} {k m k' m' : Nat} (h : RL ρ R w d k m w') (hk : k ≤ k') (hm : m ≤ m') : RL ρ R w d k' m' w' := by
  obtain ⟨r, ρ', h1, h2⟩ := h
  exact ⟨r, ρ', h1.up hk hm, h2⟩
theorem RL.trans {ρ ρ1 : Nat → Nat} {R : Nat} {w w1 w' : World} {d : Dk} {k m : Nat} (h : Mr ρ ρ1 w w1) (k2 : RL ρ1 R w1 d k m w') : RL ρ R w d k m w' := by
  obtain ⟨r, ρ', h1, h2, h3⟩ := k2
  exact ⟨r, ρ', h1, h2, h.trans h3⟩
theorem RL.keep {ρ : Nat → Nat} {R : Nat} {w w1 w' : World} {d : Dk} {k m : Nat} (h : RL ρ R w d k m w1) (hb : Below w1.heap.size w1 w') : RL ρ R w d k m w' := by
  obtain ⟨r, ρ', h1, h2, h3⟩ := h
  exact ⟨r, ρ', h1, h2.keep hb, h3.trans (Mr.ofBelow ρ' hb)⟩
theorem goes_on {d : Dk} {G : Dk → Dk} (hG : ∀ d, (G d).off = d.off) (h : (d.goes G).1 = 0) : (d.goes G).2.off = d.off := by
  unfold Dk.goes at h ⊢
  split at h
  · cases h
  · rename_i hn
    rw [if_neg hn, hG]; rfl
theorem cut_on {d : Dk} (f n : Int) (h : (d.cut f n).1 = 0) : (d.cut f n).2.off = d.off := by
  unfold Dk.cut at h ⊢
  split
  · rfl
  · split
    · rfl
    · rename_i h1 h2
      rw [if_neg h1, if_neg h2] at h
      exact goes_on (fun d => (set_flags d _ _).1) h
theorem vcut_on {d : Dk} (f n : Int) (h : (d.vcut f n).1 = 0) : (d.vcut f n).2.off = d.off := by
  unfold Dk.vcut at h ⊢
  split
  · rfl
  · split
    · rfl
    · rename_i h1 h2
      rw [if_neg h1, if_neg h2] at h
      exact cut_on f n h
theorem write_on {d : Dk} (f : Int) (b : List Int) (h : (d.write f b).1 = 0) : (d.write f b).2.off = d.off := by
  unfold Dk.write at h ⊢
  split
  · rfl
  · split
    · rfl
    · rename_i h1 h2
      rw [if_neg h1, if_neg h2] at h
      exact goes_on (fun d => (set_flags d _ _).1) h
theorem sync_on {d : Dk} (f : Int) (h : (d.sync f).1 = 0) : (d.sync f).2.off = d.off := by
  unfold Dk.sync at h ⊢
  split
  · rfl
  · rename_i h1
    rw [if_neg h1] at h
    exact goes_on (fun d => (set_flags d _ _).1) h
section
variable {w : World} {ρ : Nat → Nat} {R : Nat} {d : Dk} {r : Rk} {k m : Nat}
theorem rv_sync (h : RefAt w ρ R r) (hr : Rel d r k m) (hk : k ≤ 100000) (hm : m ≤ 1000000) (F : Int) : Calls Tryz.prog 58 #[.pointer (some ⟨R, 0, none⟩), .int .i64 F] w fun e w' => e = .returned (.int .i64 (d.sync F).1) ∧ RL ρ R w (d.sync F).2 k m w' := by
  obtain ⟨e1, hr2⟩ := hr.sync (by omega) (by omega) F
  have ok := hr.ok (by omega) (by omega)
  rw [e1]
  exact (rsync_c h ok.2 F).mono fun e w' ⟨he, ρ', a, b⟩ => ⟨he, _, ρ', hr2, a, b⟩
theorem rv_write (h : RefAt w ρ R r) (hr : Rel d r k m) (hk : k ≤ 100000) (hm : m ≤ 1000000) (F : Int) (v : Value) (b : List Int) (hv : RdS w ρ v b) (hbl : b.length ≤ 1000000000) : Calls Tryz.prog 63 #[.pointer (some ⟨R, 0, none⟩), .int .i64 F, v] w fun e w' => e = .returned (.int .i64 (d.write F b).1) ∧ RL ρ R w (d.write F b).2 (k + 1) (m + b.length) w' := by
  obtain ⟨e1, hr2⟩ := hr.write (by omega) (by omega) F b
  have ok := hr.ok (by omega) (by omega)
  rw [e1]
  exact (rwrite_c h ok.2 F v b hv hbl).mono fun e w' ⟨he, ρ', a, b⟩ => ⟨he, _, ρ', hr2, a, b⟩
theorem rv_dcut (h : RefAt w ρ R r) (hr : Rel d r k m) (hk : k ≤ 100000) (hm : m ≤ 1000000) (F n : Int) : Calls Tryz.prog 59 #[.pointer (some ⟨R, 0, none⟩), .int .i64 F, .int .i64 n] w fun e w' => e = .returned (.int .i64 (d.cut F n).1) ∧ RL ρ R w (d.cut F n).2 (k + 1) m w' := by
  obtain ⟨e1, hr2⟩ := hr.cut (by omega) (by omega) F n
  have ok := hr.ok (by omega) (by omega)
  rw [e1]
  exact (rcut_c h ok.2 F n).mono fun e w' ⟨he, ρ', a, b⟩ => ⟨he, _, ρ', hr2, a, b⟩
theorem rv_stands (h : RefAt w ρ R r) (hr : Rel d r k m) (hk : k ≤ 100000) (hm : m ≤ 1000000) (F : Int) (f : Nat) (hf : f < 2) (hF : F = f) : Calls Tryz.prog 55 #[.pointer (some ⟨R, 0, none⟩), .int .i64 F] w fun e w' => e = .returned (.string (strOfNums (d.file f).stands)) ∧ ∃ n, w' = w.drewN n := by
  subst hF
  have ok := hr.ok (by omega) (by omega)
  have := rstands_c h f hf (ok.2.file f)
  rwa [hr.stands (by omega) (by omega) f] at this
theorem rv_room (h : RefAt w ρ R r) (hr : Rel d r k m) (hk : k ≤ 100000) (hm : m ≤ 1000000) : Calls Tryz.prog 23 #[.pointer (some ⟨R, 0, none⟩)] w fun e w' => e = .returned (.int .i64 (roomF d)) ∧ ∃ n, w' = w.drewN n := by
  have ok := hr.ok (by omega) (by omega)
  have := rroom_c h ok.2
  rwa [hr.room (by omega) (by omega)] at this
set_option maxRecDepth 100000 in
/-- the document's cut -/
theorem rv_cut (h : RefAt w ρ R r) (hr : Rel d r k m) (hk : k ≤ 100000) (hm : m ≤ 1000000) (hoff : d.off = false) (F : Int) (f : Nat) (hf : f < 2) (hF : F = f) (n : Int) : Calls Tryz.prog 57 #[.pointer (some ⟨R, 0, none⟩), .int .i64 F, .int .i64 n] w fun e w' => e = .returned (.int .i64 (d.vcut F n).1) ∧ RL ρ R w (d.vcut F n).2 (k + 1) m w' := by
  have ks := rv_stands h hr hk hm F f hf hF
  have kc := fun q => rv_dcut (h.keepN q) hr hk hm F n
  have hml : mayv d.off F = 0 := by rw [hF]; exact may_ok hoff f hf
  have hv : d.vcut F n = if ((d.file f).stands.length : Int) = n then (0, d) else d.cut F n := by
    unfold Dk.vcut
    rw [if_neg (by simp [hml]), show F.toNat = f by omega]
  have hsz := strOfNums_size (d.file f).stands
  have hup := hr.up (Nat.le_succ k) (Nat.le_refl m)
  rw [hv]
  clear hv
  generalize (d.file f).stands.length = sl at *
  generalize strOfNums (d.file f).stands = s at *
  have KS := Lib.hid ks
  have KC := Lib.hid kc
  have HUP := Lib.hid hup
  clear ks kc hup hr hml hoff hF
  by_cases he : (sl : Int) = n
  · rw [if_pos he]
    have hq : ((sl : Int) == n) = true := beq_iff_eq.2 he
    clear he
    go_enter Tryz.func57, Tryz.ntmps57
    go_wp2_with (first | (go_at_call 55; go_loud ((with_reducible refine KS.out.mono ?_); rintro e w1 ⟨rfl, q, rfl⟩)) | fail)
    go_ret
    exact ⟨rfl, r, ρ, HUP.out, h.keepN q, Mr.ofBelow ρ (below_drewN w q)⟩
  · rw [if_neg he]
    have hq : ((sl : Int) == n) = false := beq_false_of_ne he
    clear he
    go_enter Tryz.func57, Tryz.ntmps57
    go_wp2_with (first
      | (go_at_call 55; go_loud ((with_reducible refine KS.out.mono ?_); rintro e w1 ⟨rfl, q, rfl⟩))
      | (go_at_call 59; go_loud ((with_reducible refine (KC.out q).mono ?_); rintro e w2 ⟨rfl, l2⟩))
      | fail)
    go_ret
    exact ⟨rfl, RL.trans (Mr.ofBelow ρ (below_drewN w q)) l2⟩
end
section
variable {w : World} {ρ : Nat → Nat} {R : Nat} {d : Dk} {r : Rk} {k m : Nat}
/-- what begin and Open tell of a new vault: its block, which nobody has a role for -/
def RB (ρ : Nat → Nat) (R : Nat) (w : World) (c : Int) (d : Dk) (k m : Nat) (x : Va) (e : Ending) (w' : World) : Prop :=
  (c ≠ 0 ∧ e = .returned (.tuple #[.pointer none, .int .i64 c]) ∧ RL ρ R w d k m w') ∨
  (c = 0 ∧ ∃ X, e = .returned (.tuple #[.pointer (some ⟨X, 0, none⟩), .int .i64 0]) ∧ w.heap.size ≤ X ∧ VaAt w' X R x ∧ ∃ r ρ', Rel d r k m ∧ RefAt w' ρ' R r ∧ Mr ρ ρ' w w' ∧ ρ' X = 0)
def xobj (R : Nat) (x : Va) : Obj := .cells #[.pointer (some ⟨R, 0, none⟩), .int .i64 x.file, .int .u64 x.gen, .int .i64 x.n, .bool x.broken] 78
theorem xobj_at (w : World) (R : Nat) (x : Va) : VaAt (w.alloc (xobj R x)) w.heap.size R x := by
  have hn := heap_alloc_new w (xobj R x)
  exact ⟨cell_of_row _ _ 0 _ _ _ hn, cell_of_row _ _ 1 _ _ _ hn, cell_of_row _ _ 2 _ _ _ hn, cell_of_row _ _ 3 _ _ _ hn, cell_of_row _ _ 4 _ _ _ hn, fun o => Joins.unfrozen_of_block hn o⟩
set_option maxRecDepth 100000 in
set_option maxHeartbeats 2000000 in
theorem rv_begin (h : RefAt w ρ R r) (hr : Rel d r k m) (hk : k ≤ 90000) (hm : m ≤ 900000) (hoff : d.off = false) :
    Calls Tryz.prog 56 #[.pointer (some ⟨R, 0, none⟩)] w fun e w' => RB ρ R w d.begin.1 d.begin.2 (k + 3) (m + 44) ⟨1, 1, 0, false⟩ e w' := by
  have hl44 : (headI 1 0).length = 44 := headI_len 1 0
  have hhb : Bytes (headI 1 0) := head_bytes 1 0
  have K1 := rv_cut h hr (by omega) (by omega) hoff 1 1 (by omega) rfl 0
  have on1 := vcut_on (d := d) 1 0
  unfold Dk.begin beginL
  rw [seqD, seqD, seqD, seqD, seqD]
  generalize d.vcut 1 0 = q1 at *
  have K2 := fun (h1 : q1.1 = 0) w1 ρ1 r1 (a1 : RefAt w1 ρ1 R r1) (l1 : Rel q1.2 r1 (k + 1) m) => rv_cut a1 l1 (by omega) (by omega) ((on1 h1).trans hoff) 0 0 (by omega) rfl 0
  have on2 := fun (h1 : q1.1 = 0) => vcut_on (d := q1.2) 0 0
  generalize q1.2.vcut 0 0 = q2 at *
  have K3 := fun w1 ρ1 r1 (a1 : RefAt w1 ρ1 R r1) (l1 : Rel q2.2 r1 (k + 1 + 1) m) v (hv : RdS w1 ρ1 v (headI 1 0)) => rv_write a1 l1 (by omega) (by omega) 1 v (headI 1 0) hv (by omega)
  rw [hl44] at K3
  generalize q2.2.write 1 (headI 1 0) = q3 at *
  have K4 := fun w1 ρ1 r1 (a1 : RefAt w1 ρ1 R r1) (l1 : Rel q3.2 r1 (k + 1 + 1 + 1) (m + 44)) => rv_sync a1 l1 (by omega) (by omega) 1
  generalize q3.2.sync 1 = q4 at *
  have hns := nums_str (headI 1 0) hhb
  have HF := Lib.hid (fun W => rfront_c 1 0 W (by omega))
  generalize strOfNums (headI 1 0) = sh at *
  obtain ⟨c1, d1⟩ := q1
  obtain ⟨c2, d2⟩ := q2
  obtain ⟨c3, d3⟩ := q3
  obtain ⟨c4, d4⟩ := q4
  simp only at *
  have H1 := Lib.hid K1; have H2 := Lib.hid K2; have H3 := Lib.hid K3; have H4 := Lib.hid K4; have HNS := Lib.hid hns
  clear K1 K2 K3 K4 on1 on2 hhb hl44 hns
  by_cases z1 : c1 = 0
  · rw [if_pos z1]
    subst z1
    by_cases z2 : c2 = 0
    · rw [if_pos z2]
      subst z2
      by_cases z3 : c3 = 0
      · rw [if_pos z3]
        subst z3
        by_cases z4 : c4 = 0
        · rw [if_pos z4]
          subst z4
          go_enter Tryz.func56, Tryz.ntmps56
          go_wp2_with (first
            | (go_at_call 57; (with_reducible refine H1.out.mono ?_); rintro e w1 ⟨rfl, r1, ρ1, l1, a1, m1⟩)
            | (go_at_call 57; go_loud ((with_reducible refine (H2.out trivial _ _ _ a1 l1).mono ?_); rintro e w2 ⟨rfl, r2, ρ2, l2, a2, m2⟩; have m12 := m1.trans m2))
            | (go_at_call 66; go_loud ((with_reducible refine (HF.out _).mono ?_); rintro e w3 ⟨rfl, b3⟩; obtain ⟨cap3, w4, hcv, hta, b4⟩ := text_conv sh w3; rw [HNS.out] at hta; have b5 := bel_call b3 b4; have a3 := a2.keep b5; have t3 := hta.rds (ρ := ρ2) (a2.fresh _ b3.size); have m13 := m12.trans (Mr.ofBelow ρ2 b5)))
            | (go_at_call 63; go_loud ((with_reducible refine (H3.out _ _ _ a3 l2 _ t3).mono ?_); rintro e w6 ⟨rfl, r6, ρ6, l6, a6, m6⟩; have m16 := m13.trans m6))
            | (go_at_call 58; go_loud ((with_reducible refine (H4.out _ _ _ a6 l6).mono ?_); rintro e w7 ⟨rfl, r7, ρ7, l7, a7, m7⟩; have m17 := m16.trans m7))
            | fail)
          go_ret2
          have hb := bel_alloc (Below.refl w7.heap.size w7) (xobj R ⟨1, 1, 0, false⟩)
          exact .inr ⟨rfl, w7.heap.size, rfl, by have := m17.size; exact this, xobj_at w7 R ⟨1, 1, 0, false⟩, r7, ρ7, l7.up (by omega) (by omega), a7.keep hb, m17.trans (Mr.ofBelow ρ7 hb), a7.fresh _ (Nat.le_refl _)⟩
        · rw [if_neg z4]
          have z := Lib.hid z4
          have e1 : (c4 == 0) = false := beq_false_of_ne z4
          have e2 : (c4 != 0) = true := by rw [bne, e1]; rfl
          clear z4
          go_enter Tryz.func56, Tryz.ntmps56
          go_wp2_with (first
            | (go_at_call 57; (with_reducible refine H1.out.mono ?_); rintro e w1 ⟨rfl, r1, ρ1, l1, a1, m1⟩)
            | (go_at_call 57; go_loud ((with_reducible refine (H2.out trivial _ _ _ a1 l1).mono ?_); rintro e w2 ⟨rfl, r2, ρ2, l2, a2, m2⟩; have m12 := m1.trans m2))
            | (go_at_call 66; go_loud ((with_reducible refine (HF.out _).mono ?_); rintro e w3 ⟨rfl, b3⟩; obtain ⟨cap3, w4, hcv, hta, b4⟩ := text_conv sh w3; rw [HNS.out] at hta; have b5 := bel_call b3 b4; have a3 := a2.keep b5; have t3 := hta.rds (ρ := ρ2) (a2.fresh _ b3.size); have m13 := m12.trans (Mr.ofBelow ρ2 b5)))
            | (go_at_call 63; go_loud ((with_reducible refine (H3.out _ _ _ a3 l2 _ t3).mono ?_); rintro e w6 ⟨rfl, r6, ρ6, l6, a6, m6⟩; have m16 := m13.trans m6))
            | (go_at_call 58; go_loud ((with_reducible refine (H4.out _ _ _ a6 l6).mono ?_); rintro e w7 ⟨rfl, r7, ρ7, l7, a7, m7⟩; have m17 := m16.trans m7))
            | fail)
          go_ret2
          exact .inl ⟨z.out, rfl, r7, ρ7, l7.up (by omega) (by omega), a7, m17⟩
      · rw [if_neg z3]
        have z := Lib.hid z3
        have e1 : (c3 == 0) = false := beq_false_of_ne z3
        have e2 : (c3 != 0) = true := by rw [bne, e1]; rfl
        clear z3
        go_enter Tryz.func56, Tryz.ntmps56
        go_wp2_with (first
          | (go_at_call 57; (with_reducible refine H1.out.mono ?_); rintro e w1 ⟨rfl, r1, ρ1, l1, a1, m1⟩)
          | (go_at_call 57; go_loud ((with_reducible refine (H2.out trivial _ _ _ a1 l1).mono ?_); rintro e w2 ⟨rfl, r2, ρ2, l2, a2, m2⟩; have m12 := m1.trans m2))
          | (go_at_call 66; go_loud ((with_reducible refine (HF.out _).mono ?_); rintro e w3 ⟨rfl, b3⟩; obtain ⟨cap3, w4, hcv, hta, b4⟩ := text_conv sh w3; rw [HNS.out] at hta; have b5 := bel_call b3 b4; have a3 := a2.keep b5; have t3 := hta.rds (ρ := ρ2) (a2.fresh _ b3.size); have m13 := m12.trans (Mr.ofBelow ρ2 b5)))
          | (go_at_call 63; go_loud ((with_reducible refine (H3.out _ _ _ a3 l2 _ t3).mono ?_); rintro e w6 ⟨rfl, r6, ρ6, l6, a6, m6⟩; have m16 := m13.trans m6))
          | (go_at_call 58; go_loud ((with_reducible refine (H4.out _ _ _ a6 l6).mono ?_); rintro e w7 ⟨rfl, r7, ρ7, l7, a7, m7⟩; have m17 := m16.trans m7))
          | fail)
        go_ret2
        exact .inl ⟨z.out, rfl, r6, ρ6, l6.up (by omega) (by omega), a6, m16⟩
    · rw [if_neg z2]
      have z := Lib.hid z2
      have e1 : (c2 == 0) = false := beq_false_of_ne z2
      have e2 : (c2 != 0) = true := by rw [bne, e1]; rfl
      clear z2
      go_enter Tryz.func56, Tryz.ntmps56
      go_wp2_with (first
        | (go_at_call 57; (with_reducible refine H1.out.mono ?_); rintro e w1 ⟨rfl, r1, ρ1, l1, a1, m1⟩)
        | (go_at_call 57; go_loud ((with_reducible refine (H2.out trivial _ _ _ a1 l1).mono ?_); rintro e w2 ⟨rfl, r2, ρ2, l2, a2, m2⟩; have m12 := m1.trans m2))
        | (go_at_call 66; go_loud ((with_reducible refine (HF.out _).mono ?_); rintro e w3 ⟨rfl, b3⟩; obtain ⟨cap3, w4, hcv, hta, b4⟩ := text_conv sh w3; rw [HNS.out] at hta; have b5 := bel_call b3 b4; have a3 := a2.keep b5; have t3 := hta.rds (ρ := ρ2) (a2.fresh _ b3.size); have m13 := m12.trans (Mr.ofBelow ρ2 b5)))
        | (go_at_call 63; go_loud ((with_reducible refine (H3.out _ _ _ a3 l2 _ t3).mono ?_); rintro e w6 ⟨rfl, r6, ρ6, l6, a6, m6⟩; have m16 := m13.trans m6))
        | (go_at_call 58; go_loud ((with_reducible refine (H4.out _ _ _ a6 l6).mono ?_); rintro e w7 ⟨rfl, r7, ρ7, l7, a7, m7⟩; have m17 := m16.trans m7))
        | fail)
      go_ret2
      exact .inl ⟨z.out, rfl, r2, ρ2, l2.up (by omega) (by omega), a2, m12⟩
  · rw [if_neg z1]
    have z := Lib.hid z1
    have e1 : (c1 == 0) = false := beq_false_of_ne z1
    have e2 : (c1 != 0) = true := by rw [bne, e1]; rfl
    clear z1
    go_enter Tryz.func56, Tryz.ntmps56
    go_wp2_with (first
      | (go_at_call 57; (with_reducible refine H1.out.mono ?_); rintro e w1 ⟨rfl, r1, ρ1, l1, a1, m1⟩)
      | (go_at_call 57; go_loud ((with_reducible refine (H2.out trivial _ _ _ a1 l1).mono ?_); rintro e w2 ⟨rfl, r2, ρ2, l2, a2, m2⟩; have m12 := m1.trans m2))
      | (go_at_call 66; go_loud ((with_reducible refine (HF.out _).mono ?_); rintro e w3 ⟨rfl, b3⟩; obtain ⟨cap3, w4, hcv, hta, b4⟩ := text_conv sh w3; rw [HNS.out] at hta; have b5 := bel_call b3 b4; have a3 := a2.keep b5; have t3 := hta.rds (ρ := ρ2) (a2.fresh _ b3.size); have m13 := m12.trans (Mr.ofBelow ρ2 b5)))
      | (go_at_call 63; go_loud ((with_reducible refine (H3.out _ _ _ a3 l2 _ t3).mono ?_); rintro e w6 ⟨rfl, r6, ρ6, l6, a6, m6⟩; have m16 := m13.trans m6))
      | (go_at_call 58; go_loud ((with_reducible refine (H4.out _ _ _ a6 l6).mono ?_); rintro e w7 ⟨rfl, r7, ρ7, l7, a7, m7⟩; have m17 := m16.trans m7))
      | fail)
    go_ret2
    exact .inl ⟨z.out, rfl, r1, ρ1, l1.up (by omega) (by omega), a1, m1⟩
end
end Go.Proofs.YtfohemgfiidokaaGreatDoor
namespace Go.Proofs.YtfohemgfiidokaaGreatDoor
open Go.RowKit Go.Sort

theorem RdS.mr {w w' : World} {ρ ρ' : Nat → Nat} {v : Value} {xs : List Int} (h : RdS w ρ v xs) (m : Mr ρ ρ' w w') : RdS w' ρ' v xs := by
  rcases h with h | ⟨a, g, o, cap, h1, h2, h3, h4⟩
  · exact .inl h
  · refine .inr ⟨a, g, o, cap, h1, h2, fun hl => ⟨(h3 hl).1, ?_⟩, fun j hj => ?_⟩
    · rw [m.role g (block_lt_of_cell (h4 0 hl))]; exact (h3 hl).2
    · have hc := h4 j hj
      rw [World.cell?_of_block (m.block g (block_lt_of_cell hc) (.inl (by rw [(h3 (by omega)).2]; omega)))]; exact hc
theorem RdLS.mr {w w' : World} {ρ ρ' : Nat → Nat} {v : Value} {ls : List (List Int)} (h : RdLS w ρ v ls) (m : Mr ρ ρ' w w') : RdLS w' ρ' v ls := by
  rcases h with h | ⟨a, g, o, cap, h1, h2, h3, h4⟩
  · exact .inl h
  · refine .inr ⟨a, g, o, cap, h1, h2, fun hl => ⟨(h3 hl).1, ?_⟩, fun j hj => ?_⟩
    · obtain ⟨u, h5, -⟩ := h4 0 hl
      rw [m.role g (block_lt_of_cell h5)]; exact (h3 hl).2
    · obtain ⟨u, h5, h6⟩ := h4 j hj
      refine ⟨u, ?_, h6.mr m⟩
      rw [World.cell?_of_block (m.block g (block_lt_of_cell h5) (.inl (by rw [(h3 (by omega)).2]; omega)))]; exact h5
theorem RdN.rds {w : World} {B : Nat} {u : Value} {r : List Int} {ρ : Nat → Nat} (h : RdN w B u r) (hf : ∀ g, B ≤ g → ρ g = 0) : RdS w ρ u r := by
  obtain ⟨g, cap, cs, fr, h1, h2, h3, h4, h5⟩ := h
  exact .inr ⟨_, g, 0, cap, h1, h2, fun _ => ⟨rfl, hf g h3⟩, fun j hj => by rw [Nat.zero_add, cell_of_row w g j cs _ _ h4]; exact h5 j hj⟩
theorem FrT.rdls {w : World} {B : Nat} {v : Value} {ls : List (List Int)} {ρ : Nat → Nat} (h : FrT w B v ls) (hf : ∀ g, B ≤ g → ρ g = 0) : RdLS w ρ v ls := by
  obtain ⟨vs, ⟨h1, h2⟩, h3⟩ := h
  rcases h2 with ⟨rfl, h2⟩ | ⟨g, cap, cur, rfl, q1, q2, q3, q4, q5, q6⟩
  · exact .inl ⟨rfl, List.length_eq_zero_iff.1 h2⟩
  · refine .inr ⟨_, g, 0, cap, rfl, q3, fun _ => ⟨rfl, hf g q1⟩, fun j hj => ?_⟩
    obtain ⟨u, e1, e2⟩ := h3 j hj
    refine ⟨u, ?_, ?_⟩
    · rw [cell_of_row w g (0 + j) cur _ _ q2, Nat.zero_add, ← Array.getElem?_toList, ← e1, ← q6, List.getElem?_take_of_lt (by omega)]
    · rw [List.getElem?_eq_getElem hj]; exact e2.rds hf
/-- what the document's Open tells -/
def RO (ρ : Nat → Nat) (R : Nat) (w : World) (q : Int × Dk × Option (Va × List (List Int))) (k m : Nat) (e : Ending) (w' : World) : Prop :=
  match q with
  | (c, d', none) => e = .returned (.tuple #[.pointer none, .slice none 0 0, .int .i64 c]) ∧ RL ρ R w d' k m w'
  | (c, d', some (x, ls)) => ∃ X rv, e = .returned (.tuple #[.pointer (some ⟨X, 0, none⟩), rv, .int .i64 c]) ∧ w.heap.size ≤ X ∧ VaAt w' X R x ∧ ∃ r ρ', Rel d' r k m ∧ RefAt w' ρ' R r ∧ Mr ρ ρ' w w' ∧ ρ' X = 0 ∧ RdLS w' ρ' rv ls
section
variable {w : World} {ρ : Nat → Nat} {R : Nat} {d : Dk} {r : Rk} {k m : Nat}
theorem rread_st (h : RefAt w ρ R r) (hr : Rel d r k m) (hk : k ≤ 100000) (hm : m ≤ 1000000) (hoff : d.off = false) : Calls Tryz.prog 25 #[.pointer (some ⟨R, 0, none⟩), .int .i64 0] w fun e w' => ∃ p n c, e = .returned (.tuple #[.slice p n c, .int .i64 0]) ∧ Below w.heap.size w w' := by
  have ok := hr.ok (by omega) (by omega)
  exact (rread_at h ok.2 (by rw [hr.power, hoff]; rfl) 0 (by omega)).mono fun e w' ⟨p, n, c, he, _, hb⟩ => ⟨p, n, c, he, hb⟩
theorem rsound_st (hr : Rel d r k m) (hm : m ≤ 1000000) (F : Int) (f : Nat) (hb : Bytes (d.file f).stands) : ∀ W, Calls Tryz.prog 54 #[.string (strOfNums (d.file f).stands), .int .i64 F] W fun e w' => SoundT F (d.file f).stands W.heap.size e w' ∧ Below W.heap.size W w' := fun W => by
  refine sound_c F _ W hb ?_
  have := hr.z f
  have h2 := stands_len (d.file f)
  omega
set_option maxRecDepth 100000 in
theorem rv_open_off (h : RefAt w ρ R r) (hr : Rel d r k m) (hoff : d.off = true) (k' m' : Nat) (hk' : k ≤ k') (hm' : m ≤ m') : Calls Tryz.prog 22 #[.pointer (some ⟨R, 0, none⟩)] w fun e w' => RO ρ R w d.openV k' m' e w' := by
  have hv : d.openV = (8, d, none) := by unfold Dk.openV; rw [if_pos hoff]
  have hrm : rmay r.power 0 = 8 := by rw [hr.power, hoff]; rfl
  have hn := rread_no h 0 (by rw [hrm]; decide)
  rw [hrm] at hn
  have HN := Lib.hid hn
  have HR := Lib.hid hr
  rw [hv]
  clear hn hr hrm hv hoff
  go_enter Tryz.func22, Tryz.ntmps22
  go_wp2_with (first
    | (go_at_call 25; go_loud ((with_reducible refine HN.out.mono ?_); rintro e w1 ⟨rfl, hw1⟩; obtain rfl := hw1.symm))
    | fail)
  go_ret3
  exact ⟨rfl, r, ρ, HR.out.up hk' hm', h, Mr.refl _ _⟩
end
end Go.Proofs.YtfohemgfiidokaaGreatDoor
