/- The reference's TakeVar. -/
import Derived.Test.YtoeooabaofpngaaOh
namespace Go.Proofs.Ytoeooabaofpngaa
open Go.RowKit Go.Sort

/-- where the number stands -/
def fromB (i s : Int) : Int := if 1 < s then i + 1 else i
def minB (a b : Int) : Int := if b < a then b else a
/-- is it the number of that size? -/
def isB (xs : List Int) (i s : Int) : Bool :=
  decide ((takeB xs (minB (fromB i s) xs.length) s).2.2 = 0) && (startsB xs i.toNat (varB (takeB xs (minB (fromB i s) xs.length) s).1) && decide (((varB (takeB xs (minB (fromB i s) xs.length) s).1).length : Int) = s + fromB i s - i))
def rtv (xs : List Int) (i : Int) : Nat → Int → Int × Int × Int
  | 0, _ => (0, 0, 5)
  | n + 1, s => if isB xs i s = true then ((takeB xs (minB (fromB i s) xs.length) s).1, fromB i s + s, 0) else rtv xs i n (2 * s)
def rtvarB (xs : List Int) (i : Int) : Int × Int × Int := if i < 0 ∨ (xs.length : Int) < i then (0, 0, 1) else rtv xs i 4 1

set_option maxRecDepth 100000 in
set_option maxHeartbeats 4000000 in
theorem rtakevar_c (v : Value) (xs : List Int) (i : Int) (w : World) (h : RdB w v xs) (hb : Bytes xs) (hl : xs.length ≤ 100000000) (hi : I64 i) :
    Calls Try.prog 26 #[v, .int .i64 i] w fun e w' => e = .returned (tri (rtvarB xs i)) ∧ Below w.heap.size w w' := by
  obtain ⟨hi1, hi2⟩ := hi
  have hv : ∃ a cap, v = .slice a xs.length cap ∧ xs.length ≤ cap := by
    rcases h with ⟨rfl, rfl⟩ | ⟨a, g, o, cap, rfl, hc, ha, hcell⟩
    · exact ⟨_, _, rfl, Nat.le_refl _⟩
    · exact ⟨_, _, rfl, hc⟩
  obtain ⟨a, cap, rfl, hc⟩ := hv
  have H := Lib.hid h
  clear h
  unfold rtvarB
  by_cases h1 : i < 0
  · rw [if_pos (.inl h1)]
    go_enter Try.func26, Try.ntmps26
    go_wp2
    go_ret3
    exact ⟨rfl, Below.refl _ _⟩
  by_cases h2 : (xs.length : Int) < i
  · rw [if_pos (.inr h2)]
    go_enter Try.func26, Try.ntmps26
    go_wp2
    go_ret3
    exact ⟨rfl, Below.refl _ _⟩
  rw [if_neg (by omega)]
  obtain ⟨j, rfl⟩ := Int.eq_ofNat_of_zero_le (show 0 ≤ i by omega)
  have g1 : IntKind.i64.wrap ((j : Int) + 1) = (j : Int) + 1 := by rw [IntKind.wrap_i64]; omega
  generalize hR : rtv xs j 4 1 = R
  have HR := Lib.hid hR
  clear hR
  go_enter Try.func26, Try.ntmps26
  go_wp2
  go_loopw [7] (fun s wr => ∃ (k : Nat) (z : Int), s = .int .i64 z ∧ (k = 0 ∧ z = 16 ∨ k = 1 ∧ z = 8 ∨ k = 2 ∧ z = 4 ∨ k = 3 ∧ z = 2 ∨ k = 4 ∧ z = 1) ∧ rtv xs j k z = R ∧ Below w.heap.size w wr) (fun s _ => (17 - intOf s).toNat)
  case atStart => exact ⟨4, 1, rfl, by omega, HR.out, Below.refl _ _⟩
  case round =>
    obtain ⟨k, z, rfl, hk, hrt, hB⟩ := hrel
    rcases k with _ | k
    · have hz : z = 16 := by omega
      subst hz
      have hrt2 : R = (0, 0, 5) := hrt.symm
      clear hrt hk
      go_wp2
      go_ret3
      exact ⟨by rw [hrt2]; rfl, hB⟩
    · have hz : z = 1 ∨ z = 2 ∨ z = 4 ∨ z = 8 := by omega
      have hz2 : okz z = true := by rw [okz_iff]; exact hz
      rw [rtv] at hrt
      have hzz : IntKind.i64.wrap (2 * z) = 2 * z := by rw [IntKind.wrap_i64]; omega
      have hm : ∃ m : Int, minB (fromB j z) xs.length = m ∧ 0 ≤ m ∧ m ≤ xs.length := ⟨_, rfl, by unfold minB fromB; split <;> split <;> omega, by unfold minB fromB; split <;> split <;> omega⟩
      obtain ⟨m, hme, hm0, hm1⟩ := hm
      have kt := rtake_c (.slice a xs.length cap) xs m z wr (H.out.keep hB) hb hl ⟨by omega, by omega⟩ ⟨by omega, by omega⟩
      have bt := takeB_bd (i := m) (s := z) hb hl
      have hisd : isB xs j z = (decide ((takeB xs m z).2.2 = 0) && (startsB xs j (varB (takeB xs m z).1) && decide (((varB (takeB xs m z).1).length : Int) = z + fromB j z - j))) := by unfold isB; rw [hme]; rfl
      rw [hme] at hrt
      generalize takeB xs m z = q at *
      obtain ⟨n1, p1, e1⟩ := q
      unfold tri at kt
      simp only at kt bt hisd hrt
      have hfr : fromB j z = (if 1 < z then (j : Int) + 1 else j) := rfl
      generalize isB xs j z = isz at *
      unfold minB at hme
      obtain ⟨V, hV⟩ : ∃ V, V = varB n1 := ⟨_, rfl⟩
      have kv : ∀ W, Calls Try.prog 27 #[.int .u64 n1] W _ := fun W => var_c n1 W bt.1 bt.2.1
      have HV1 : 0 < V.length := by rw [hV]; exact (varB_len n1).1
      have HV2 : V.length ≤ 1000 := by have := (varB_len n1).2; rw [hV]; omega
      simp only [← hV] at kv hisd
      clear hV
      have HJ : j ≤ xs.length := by omega
      obtain ⟨sb, hsb⟩ : ∃ sb, startsB xs j V = sb := ⟨_, rfl⟩
      rw [hsb] at hisd
      by_cases hz1 : 1 < z
      · rw [if_pos hz1] at hfr
        rw [hfr] at hme hrt hisd
        clear hfr
        have gz1 : IntKind.i64.wrap (z + ((j : Int) + 1)) = z + ((j : Int) + 1) := by rw [IntKind.wrap_i64]; omega
        have gz2 : IntKind.i64.wrap (z + ((j : Int) + 1) - j) = z + ((j : Int) + 1) - j := by rw [IntKind.wrap_i64]; omega
        have gz3 : IntKind.i64.wrap (((j : Int) + 1) + z) = ((j : Int) + 1) + z := by rw [IntKind.wrap_i64]; omega
        by_cases he : e1 = 0
        · subst he
          by_cases hs : sb = true
          · by_cases hln : (V.length : Int) = z + ((j : Int) + 1) - j
            · have hit : isz = true := by rw [hisd, hs, decide_eq_true hln]; rfl
              rw [if_pos hit] at hrt
              rw [hs] at hsb
              have ks : ∀ W u, Below w.heap.size w W → RdB W u V → Calls Try.prog 42 #[.slice a xs.length cap, .int .i64 j, u] W (fun e w' => e = .returned (.bool true) ∧ Below W.heap.size W w') := fun W u hW hu => by
                have := starts_c (.slice a xs.length cap) u xs V j W (H.out.keep hW) hu hl HJ HV2 HV1
                rwa [hsb] at this
              clear hsb
              have HRT := Lib.hid hrt
              have HLN := decide_eq_true hln
              clear hrt hisd hit hs
              go_wp2_with first
                    | (go_at_call 13; with_reducible refine kt.mono ?_; rintro e w1 ⟨rfl, hb1⟩; have hacc := bel_call hB hb1)
                    | (go_at_call 27; with_reducible refine (kv _).mono ?_; rintro e w2 ⟨vv, rfl, hrv, hbv⟩; have hacc := bel_call hacc hbv; have hrd := hrv.rd; obtain ⟨al, capl, rfl, hcl, hcells⟩ := hrd.some' HV1; clear hcells hrv)
                    | (go_at_call 42; with_reducible refine (ks _ _ hacc hrd).mono ?_; rintro e w3 ⟨rfl, hbs⟩; have hacc := bel_call hacc hbs)
              go_ret3
              exact ⟨by rw [← HRT.out]; rfl, hacc⟩
            · have hit : isz = false := by rw [hisd, hs, decide_eq_false hln]; rfl
              rw [hit, if_neg (by simp)] at hrt
              rw [hs] at hsb
              have ks : ∀ W u, Below w.heap.size w W → RdB W u V → Calls Try.prog 42 #[.slice a xs.length cap, .int .i64 j, u] W (fun e w' => e = .returned (.bool true) ∧ Below W.heap.size W w') := fun W u hW hu => by
                have := starts_c (.slice a xs.length cap) u xs V j W (H.out.keep hW) hu hl HJ HV2 HV1
                rwa [hsb] at this
              clear hsb
              have HRT := Lib.hid hrt
              have HLN := decide_eq_false hln
              clear hrt hisd hit hs
              go_wp2_with first
                    | (go_at_call 13; with_reducible refine kt.mono ?_; rintro e w1 ⟨rfl, hb1⟩; have hacc := bel_call hB hb1)
                    | (go_at_call 27; with_reducible refine (kv _).mono ?_; rintro e w2 ⟨vv, rfl, hrv, hbv⟩; have hacc := bel_call hacc hbv; have hrd := hrv.rd; obtain ⟨al, capl, rfl, hcl, hcells⟩ := hrd.some' HV1; clear hcells hrv)
                    | (go_at_call 42; with_reducible refine (ks _ _ hacc hrd).mono ?_; rintro e w3 ⟨rfl, hbs⟩; have hacc := bel_call hacc hbs)
              go_roundw
              case rel => exact ⟨k, 2 * z, by go_num, by omega, HRT.out, hacc⟩
              case measure => simp [intOf]; omega
          · have hs2 : sb = false := by simpa using hs
            have hit : isz = false := by rw [hisd, hs2]; rfl
            rw [hit, if_neg (by simp)] at hrt
            rw [hs2] at hsb
            have ks : ∀ W u, Below w.heap.size w W → RdB W u V → Calls Try.prog 42 #[.slice a xs.length cap, .int .i64 j, u] W (fun e w' => e = .returned (.bool false) ∧ Below W.heap.size W w') := fun W u hW hu => by
              have := starts_c (.slice a xs.length cap) u xs V j W (H.out.keep hW) hu hl HJ HV2 HV1
              rwa [hsb] at this
            clear hsb
            have HRT := Lib.hid hrt
            clear hrt hisd hit hs hs2
            go_wp2_with first
                    | (go_at_call 13; with_reducible refine kt.mono ?_; rintro e w1 ⟨rfl, hb1⟩; have hacc := bel_call hB hb1)
                    | (go_at_call 27; with_reducible refine (kv _).mono ?_; rintro e w2 ⟨vv, rfl, hrv, hbv⟩; have hacc := bel_call hacc hbv; have hrd := hrv.rd; obtain ⟨al, capl, rfl, hcl, hcells⟩ := hrd.some' HV1; clear hcells hrv)
                    | (go_at_call 42; with_reducible refine (ks _ _ hacc hrd).mono ?_; rintro e w3 ⟨rfl, hbs⟩; have hacc := bel_call hacc hbs)
            go_roundw
            case rel => exact ⟨k, 2 * z, by go_num, by omega, HRT.out, hacc⟩
            case measure => simp [intOf]; omega
        · have hit : isz = false := by rw [hisd, decide_eq_false he]; rfl
          rw [hit, if_neg (by simp)] at hrt
          have HRT := Lib.hid hrt
          have HE : (e1 == 0) = false := by simpa using he
          clear hrt hisd hit
          go_wp2_with first
                    | (go_at_call 13; with_reducible refine kt.mono ?_; rintro e w1 ⟨rfl, hb1⟩; have hacc := bel_call hB hb1)
                    | (go_at_call 27; with_reducible refine (kv _).mono ?_; rintro e w2 ⟨vv, rfl, hrv, hbv⟩; have hacc := bel_call hacc hbv; have hrd := hrv.rd; obtain ⟨al, capl, rfl, hcl, hcells⟩ := hrd.some' HV1; clear hcells hrv)
                    | (go_at_call 42; with_reducible refine (ks _ _ hacc hrd).mono ?_; rintro e w3 ⟨rfl, hbs⟩; have hacc := bel_call hacc hbs)
          go_roundw
          case rel => exact ⟨k, 2 * z, by go_num, by omega, HRT.out, hacc⟩
          case measure => simp [intOf]; omega
      · rw [if_neg hz1] at hfr
        rw [hfr] at hme hrt hisd
        clear hfr
        have hmj : m = j := by rw [← hme, if_neg (by omega)]
        clear hme
        subst hmj
        have gz1 : IntKind.i64.wrap (z + ((j : Int))) = z + ((j : Int)) := by rw [IntKind.wrap_i64]; omega
        have gz2 : IntKind.i64.wrap (z + ((j : Int)) - j) = z + ((j : Int)) - j := by rw [IntKind.wrap_i64]; omega
        have gz3 : IntKind.i64.wrap (((j : Int)) + z) = ((j : Int)) + z := by rw [IntKind.wrap_i64]; omega
        by_cases he : e1 = 0
        · subst he
          by_cases hs : sb = true
          · by_cases hln : (V.length : Int) = z + ((j : Int)) - j
            · have hit : isz = true := by rw [hisd, hs, decide_eq_true hln]; rfl
              rw [if_pos hit] at hrt
              rw [hs] at hsb
              have ks : ∀ W u, Below w.heap.size w W → RdB W u V → Calls Try.prog 42 #[.slice a xs.length cap, .int .i64 j, u] W (fun e w' => e = .returned (.bool true) ∧ Below W.heap.size W w') := fun W u hW hu => by
                have := starts_c (.slice a xs.length cap) u xs V j W (H.out.keep hW) hu hl HJ HV2 HV1
                rwa [hsb] at this
              clear hsb
              have HRT := Lib.hid hrt
              have HLN := decide_eq_true hln
              clear hrt hisd hit hs
              go_wp2_with first
                    | (go_at_call 13; with_reducible refine kt.mono ?_; rintro e w1 ⟨rfl, hb1⟩; have hacc := bel_call hB hb1)
                    | (go_at_call 27; with_reducible refine (kv _).mono ?_; rintro e w2 ⟨vv, rfl, hrv, hbv⟩; have hacc := bel_call hacc hbv; have hrd := hrv.rd; obtain ⟨al, capl, rfl, hcl, hcells⟩ := hrd.some' HV1; clear hcells hrv)
                    | (go_at_call 42; with_reducible refine (ks _ _ hacc hrd).mono ?_; rintro e w3 ⟨rfl, hbs⟩; have hacc := bel_call hacc hbs)
              go_ret3
              exact ⟨by rw [← HRT.out]; rfl, hacc⟩
            · have hit : isz = false := by rw [hisd, hs, decide_eq_false hln]; rfl
              rw [hit, if_neg (by simp)] at hrt
              rw [hs] at hsb
              have ks : ∀ W u, Below w.heap.size w W → RdB W u V → Calls Try.prog 42 #[.slice a xs.length cap, .int .i64 j, u] W (fun e w' => e = .returned (.bool true) ∧ Below W.heap.size W w') := fun W u hW hu => by
                have := starts_c (.slice a xs.length cap) u xs V j W (H.out.keep hW) hu hl HJ HV2 HV1
                rwa [hsb] at this
              clear hsb
              have HRT := Lib.hid hrt
              have HLN := decide_eq_false hln
              clear hrt hisd hit hs
              go_wp2_with first
                    | (go_at_call 13; with_reducible refine kt.mono ?_; rintro e w1 ⟨rfl, hb1⟩; have hacc := bel_call hB hb1)
                    | (go_at_call 27; with_reducible refine (kv _).mono ?_; rintro e w2 ⟨vv, rfl, hrv, hbv⟩; have hacc := bel_call hacc hbv; have hrd := hrv.rd; obtain ⟨al, capl, rfl, hcl, hcells⟩ := hrd.some' HV1; clear hcells hrv)
                    | (go_at_call 42; with_reducible refine (ks _ _ hacc hrd).mono ?_; rintro e w3 ⟨rfl, hbs⟩; have hacc := bel_call hacc hbs)
              go_roundw
              case rel => exact ⟨k, 2 * z, by go_num, by omega, HRT.out, hacc⟩
              case measure => simp [intOf]; omega
          · have hs2 : sb = false := by simpa using hs
            have hit : isz = false := by rw [hisd, hs2]; rfl
            rw [hit, if_neg (by simp)] at hrt
            rw [hs2] at hsb
            have ks : ∀ W u, Below w.heap.size w W → RdB W u V → Calls Try.prog 42 #[.slice a xs.length cap, .int .i64 j, u] W (fun e w' => e = .returned (.bool false) ∧ Below W.heap.size W w') := fun W u hW hu => by
              have := starts_c (.slice a xs.length cap) u xs V j W (H.out.keep hW) hu hl HJ HV2 HV1
              rwa [hsb] at this
            clear hsb
            have HRT := Lib.hid hrt
            clear hrt hisd hit hs hs2
            go_wp2_with first
                    | (go_at_call 13; with_reducible refine kt.mono ?_; rintro e w1 ⟨rfl, hb1⟩; have hacc := bel_call hB hb1)
                    | (go_at_call 27; with_reducible refine (kv _).mono ?_; rintro e w2 ⟨vv, rfl, hrv, hbv⟩; have hacc := bel_call hacc hbv; have hrd := hrv.rd; obtain ⟨al, capl, rfl, hcl, hcells⟩ := hrd.some' HV1; clear hcells hrv)
                    | (go_at_call 42; with_reducible refine (ks _ _ hacc hrd).mono ?_; rintro e w3 ⟨rfl, hbs⟩; have hacc := bel_call hacc hbs)
            go_roundw
            case rel => exact ⟨k, 2 * z, by go_num, by omega, HRT.out, hacc⟩
            case measure => simp [intOf]; omega
        · have hit : isz = false := by rw [hisd, decide_eq_false he]; rfl
          rw [hit, if_neg (by simp)] at hrt
          have HRT := Lib.hid hrt
          have HE : (e1 == 0) = false := by simpa using he
          clear hrt hisd hit
          go_wp2_with first
                    | (go_at_call 13; with_reducible refine kt.mono ?_; rintro e w1 ⟨rfl, hb1⟩; have hacc := bel_call hB hb1)
                    | (go_at_call 27; with_reducible refine (kv _).mono ?_; rintro e w2 ⟨vv, rfl, hrv, hbv⟩; have hacc := bel_call hacc hbv; have hrd := hrv.rd; obtain ⟨al, capl, rfl, hcl, hcells⟩ := hrd.some' HV1; clear hcells hrv)
                    | (go_at_call 42; with_reducible refine (ks _ _ hacc hrd).mono ?_; rintro e w3 ⟨rfl, hbs⟩; have hacc := bel_call hacc hbs)
          go_roundw
          case rel => exact ⟨k, 2 * z, by go_num, by omega, HRT.out, hacc⟩
          case measure => simp [intOf]; omega
end Go.Proofs.Ytoeooabaofpngaa
