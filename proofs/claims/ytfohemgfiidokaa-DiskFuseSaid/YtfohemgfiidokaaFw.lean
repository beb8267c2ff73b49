/- The walk of DiskFuse. -/
import Derived.Test.YtfohemgfiidokaaFp
import Derived.Test.YtfohemgfiidokaaFr
namespace Go.Proofs.Ytfohemgfiidokaa.diskFuse
open Go.RowKit Go.Sort

theorem two {w0 w : World} {D : Nat} {d : Dk} {n : Int} {k : Nat} (h : Now w0 D d w) (fi : FI n (k + 1) d) (hk : k + 1 ≤ 1024) :
    Calls Try.prog 16 #[.pointer (some ⟨D, 0, none⟩), .int .i64 2, .slice none 0 0] w fun e w' => e = .returned (.int .i64 (if (k : Int) < n then 1 else 8)) ∧ Now w0 D d w' := by
  have e : d.write 2 [] = (if (k : Int) < n then 1 else 8, d) := by
    rw [write_two]
    by_cases hkn : (k : Int) < n
    · rw [(fi.on (by omega)).1, if_pos hkn]; rfl
    · rw [fi.gone (by omega), if_neg hkn]; rfl
  exact now_write h (Below.refl _ _) (fi.ok hk) 2 _ [] (.inl ⟨rfl, rfl⟩) (by simp) e
theorem new1 (lo : Nat) (w : World) (t : TypeId) (m : Nat × Nat) (b : Int) : RdM lo w.heap.size (w.alloc (.cells #[.int .u8 b] t m)) (.slice (some ⟨w.heap.size, 0, none⟩) 1 1) [b] :=
  RdM.new lo w t m [b] 1 1 rfl (by omega) _ fun j hj => match j, hj with
    | 0, _ => rfl
    | j + 1, h => absurd h (by simp)

set_option maxRecDepth 100000 in
set_option maxHeartbeats 1600000 in
theorem walk (n : Int) (hn0 : 0 ≤ n) (hn1 : n ≤ 255) (v : Value) (xs : List Int) (w : World) (hv : RdB w v xs) (hx : ∀ b ∈ xs, 0 ≤ b ∧ b < 256) :
    Calls Try.prog 6 #[.int .u8 n, v] w fun e w' => e = .returned (.bool true) ∧ Below w.heap.size w w' := by
  obtain ⟨p, cap, rfl⟩ := hv.shape
  have kn := now_new 4096 w (by omega) (by omega)
  by_cases hl : 1024 < xs.length
  · have hl' : (1024 : Int) < xs.length := by omega
    go_enter Try.func6, Try.ntmps6
    go_wp2_with fail
    with_reducible refine kn.mono ?_
    rintro e w1 ⟨rfl, hn⟩
    go_wp2_with (go_at_call 9; refine (works_c _).mono ?_; rintro e w2 ⟨rfl, hb2⟩)
    go_ret
    exact ⟨rfl, bel_call hn.below hb2⟩
  · have hl' : ¬ (1024 : Int) < xs.length := by omega
    have hlen : xs.length ≤ 1024 := by omega
    go_enter Try.func6, Try.ntmps6
    go_wp2_with fail
    with_reducible refine kn.mono ?_
    rintro e w1 ⟨rfl, hw1⟩
    clear kn
    have kf := now_fuse hw1 (r := 0) (d' := ⟨⟨[], []⟩, ⟨[], []⟩, 4096, false, decide (0 ≤ n), n⟩) n rfl
    go_wp2_with (go_at_call 22; with_reducible refine kf.mono ?_; rintro e w2 ⟨rfl, hw2⟩)
    clear hw1 kf
    have fi0 : FI n 0 ⟨⟨[], []⟩, ⟨[], []⟩, 4096, false, decide (0 ≤ n), n⟩ := ⟨rfl, decide_eq_true hn0, fun _ => ⟨rfl, by simp⟩, fun e => by simp at e; omega, ⟨by simp [sizes], by simp⟩, ⟨by simp [sizes], by simp⟩⟩
    have hel : ∀ W, Below w.heap.size w W → ∀ j, j < xs.length → ∃ g o, p = some ⟨g, o, none⟩ ∧ W.cell? ⟨g, o + j, none⟩ = some (.int .u8 (xs[j]?.getD 0)) := by
      intro W hW j hj
      rcases hv with ⟨-, h2⟩ | ⟨a, g, o, c2, h1, h2, h3, h4⟩
      · rw [h2] at hj; simp at hj
      · have ha := h3 (by omega)
        injection h1 with e1 e2 e3
        exact ⟨g, o, by rw [e1, ha], by rw [hW.cell (block_lt_of_cell (h4 j hj))]; exact h4 j hj⟩
    have HE := Lib.hid hel
    have HX := Lib.hid hx
    have HF := Lib.hid fi0
    clear hel hx fi0 hv hl
    go_loopw [7] (fun iv wr => ∃ (k : Nat) (d : Dk), k ≤ xs.length ∧ iv = .int .i64 k ∧ Now w w.heap.size d wr ∧ FI n k d) (fun i _ => xs.length - (intOf i).toNat)
    case atStart => exact ⟨0, _, by omega, rfl, hw2, HF.out⟩
    case round =>
      clear hw2 HF
      obtain ⟨k, d, hk, rfl, hd, fi⟩ := hrel
      by_cases hlt : k < xs.length
      · have hk0 : (0 : Int) ≤ k := by omega
        have hkl : (k : Int) < xs.length := by omega
        obtain ⟨g, o, rfl, hcell⟩ := HE.out wr hd.below k hlt
        have hbx := HX.out (xs[k]?.getD 0) (by rw [List.getElem?_eq_getElem hlt]; exact List.getElem_mem hlt)
        generalize xs[k]?.getD 0 = b at hcell hbx
        have b0 : (0 : Int) ≤ b := hbx.1
        have b1 : b ≤ 255 := by omega
        clear hbx HE HX
        have hok := fi.ok (by omega)
        have hf : b % 2 = 0 ∨ b % 2 = 1 := by omega
        obtain ⟨d1, e1, f1⟩ := fi.write (by omega) (by omega) (b % 2) hf b
        obtain ⟨d2, e2, f2⟩ := fi.cut (by omega) (b % 2) hf
        obtain ⟨d3, e3, f3⟩ := fi.sync (by omega) (b % 2) hf
        have k1 := fun W (hW : Below wr.heap.size wr W) x (hr : RdM w.heap.size wr.heap.size W x [b]) => now_write hd hW hok (b % 2) x [b] hr (by simp) e1
        have k2 := now_cut hd hok (b % 2) 0 e2
        have k3 := now_sync hd hok (b % 2) e3
        have t1 := fun W (h : Now w w.heap.size d1 W) => two h f1 (by omega)
        have t2 := fun W (h : Now w w.heap.size d2 W) => two h f2 (by omega)
        have t3 := fun W (h : Now w w.heap.size d3 W) => two h f3 (by omega)
        have F1 := Lib.hid f1; have F2 := Lib.hid f2; have F3 := Lib.hid f3
        clear e1 e2 e3 fi hd hok f1 f2 f3 hf
        by_cases hkn : (k : Int) < n
        · rw [show fres n k = 0 from if_pos hkn] at k1 k2 k3
          rw [if_pos hkn] at t1 t2 t3
          by_cases q0 : b / 2 % 3 = 0
          · have q0' : (b / 2 % 3 == 0) = true := by simpa using q0
            go_wp2_with fail
            refine (k1 _ (bel_alloc (Below.refl _ _) _) _ (new1 _ _ _ _ _)).mono ?_
            rintro e w3 ⟨rfl, hw3⟩
            have kt := t1 w3 hw3
            clear k1 k2 k3 t1 t2 t3
            go_wp2_with (go_at_call 16; with_reducible refine kt.mono ?_; rintro e w4 ⟨rfl, hw4⟩)
            all_goals go_roundw
            case rel => exact ⟨k + 1, _, by omega, by go_num, hw4, F1.out⟩
            case measure => simp [intOf]; omega
          · have q0' : (b / 2 % 3 == 0) = false := by simpa using q0
            by_cases q1 : b / 2 % 3 = 1
            · have q1' : (b / 2 % 3 == 1) = true := by simpa using q1
              go_wp2_with fail
              refine k2.mono ?_
              rintro e w3 ⟨rfl, hw3⟩
              have kt := t2 w3 hw3
              clear k1 k2 k3 t1 t2 t3
              go_wp2_with (go_at_call 16; with_reducible refine kt.mono ?_; rintro e w4 ⟨rfl, hw4⟩)
              all_goals go_roundw
              case rel => exact ⟨k + 1, _, by omega, by go_num, hw4, F2.out⟩
              case measure => simp [intOf]; omega
            · have q1' : (b / 2 % 3 == 1) = false := by simpa using q1
              go_wp2_with fail
              refine k3.mono ?_
              rintro e w3 ⟨rfl, hw3⟩
              have kt := t3 w3 hw3
              clear k1 k2 k3 t1 t2 t3
              go_wp2_with (go_at_call 16; with_reducible refine kt.mono ?_; rintro e w4 ⟨rfl, hw4⟩)
              all_goals go_roundw
              case rel => exact ⟨k + 1, _, by omega, by go_num, hw4, F3.out⟩
              case measure => simp [intOf]; omega
        · rw [show fres n k = 8 from if_neg hkn] at k1 k2 k3
          rw [if_neg hkn] at t1 t2 t3
          by_cases q0 : b / 2 % 3 = 0
          · have q0' : (b / 2 % 3 == 0) = true := by simpa using q0
            go_wp2_with fail
            refine (k1 _ (bel_alloc (Below.refl _ _) _) _ (new1 _ _ _ _ _)).mono ?_
            rintro e w3 ⟨rfl, hw3⟩
            have kt := t1 w3 hw3
            clear k1 k2 k3 t1 t2 t3
            go_wp2_with (go_at_call 16; with_reducible refine kt.mono ?_; rintro e w4 ⟨rfl, hw4⟩)
            all_goals go_roundw
            case rel => exact ⟨k + 1, _, by omega, by go_num, hw4, F1.out⟩
            case measure => simp [intOf]; omega
          · have q0' : (b / 2 % 3 == 0) = false := by simpa using q0
            by_cases q1 : b / 2 % 3 = 1
            · have q1' : (b / 2 % 3 == 1) = true := by simpa using q1
              go_wp2_with fail
              refine k2.mono ?_
              rintro e w3 ⟨rfl, hw3⟩
              have kt := t2 w3 hw3
              clear k1 k2 k3 t1 t2 t3
              go_wp2_with (go_at_call 16; with_reducible refine kt.mono ?_; rintro e w4 ⟨rfl, hw4⟩)
              all_goals go_roundw
              case rel => exact ⟨k + 1, _, by omega, by go_num, hw4, F2.out⟩
              case measure => simp [intOf]; omega
            · have q1' : (b / 2 % 3 == 1) = false := by simpa using q1
              go_wp2_with fail
              refine k3.mono ?_
              rintro e w3 ⟨rfl, hw3⟩
              have kt := t3 w3 hw3
              clear k1 k2 k3 t1 t2 t3
              go_wp2_with (go_at_call 16; with_reducible refine kt.mono ?_; rintro e w4 ⟨rfl, hw4⟩)
              all_goals go_roundw
              case rel => exact ⟨k + 1, _, by omega, by go_num, hw4, F3.out⟩
              case measure => simp [intOf]; omega
      · have hkk : k = xs.length := by omega
        subst hkk
        have hr : mayv d.off 0 = if n < (xs.length : Int) then 8 else 0 := by
          by_cases hnl : n < (xs.length : Int)
          · rw [if_pos hnl, fi.gone hnl]; rfl
          · rw [if_neg hnl]; exact fi.may (by omega) 0 (.inl rfl)
        by_cases hnl : n < (xs.length : Int)
        · have kr := now_read_no hd 0 (by rw [hr, if_pos hnl]; decide)
          rw [hr, if_pos hnl] at kr
          clear hr hd fi HE HX
          go_wp2_with (first | (go_at_call 21; with_reducible refine kr.mono ?_; rintro e w4 ⟨rfl, hw4⟩) | (go_at_call 9; refine (works_c _).mono ?_; rintro e w5 ⟨rfl, hb5⟩))
          go_ret
          exact ⟨rfl, bel_call hw4.below hb5⟩
        · have hd0 : decide (n < (xs.length : Int)) = false := decide_eq_false hnl
          have kr := now_read hd (fi.ok (by omega)) (fi.on (by omega)).1 0 (by omega)
          clear hr hd fi HE HX hnl
          go_wp2_with fail
          refine kr.mono ?_
          rintro e w4 ⟨v4, rfl, -, -, hw4⟩
          go_wp2_with (go_at_call 9; refine (works_c _).mono ?_; rintro e w5 ⟨rfl, hb5⟩)
          go_ret
          exact ⟨rfl, bel_call hw4.below hb5⟩
end Go.Proofs.Ytfohemgfiidokaa.diskFuse
