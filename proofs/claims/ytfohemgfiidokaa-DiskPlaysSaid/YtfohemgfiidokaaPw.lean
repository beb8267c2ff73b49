/- The walk of DiskPlays. -/
import Derived.Test.YtfohemgfiidokaaPq
namespace Go.Proofs.Ytfohemgfiidokaa.diskPlays
open Go.RowKit Go.Sort diskKeeps

theorem blen_snoc (L : List StepD) (k : Nat) (h : k < L.length) : blen (L.take (k + 1)) = blen (L.take k) + L[k].B.length := by
  rw [List.take_succ_eq_append_getElem h]
  generalize L.take k = M
  induction M with
  | nil => simp [blen]
  | cons s t ih => simp only [List.cons_append, blen, ih]; omega
theorem memB : ∀ (L : List StepD) (j : Nat) (h : j < L.length), L[j].B.length ≤ blen L
  | s :: t, 0, _ => by simp only [List.getElem_cons_zero, blen]; omega
  | s :: t, j + 1, h => by
    have := memB t j (by simpa using h)
    simp only [List.getElem_cons_succ, blen]; omega

set_option maxRecDepth 100000 in
set_option maxHeartbeats 1600000 in
theorem walk (most : Int) (p : Option Addr) (cap : Nat) (L : List StepD) (w : World) (hst : StepsIn w p L) (hlL : L.length ≤ 10000000000000) :
    Calls Try.prog 3 #[.int .i64 most, .slice p L.length cap] w fun e w' => e = .returned (.bool true) ∧ Below w.heap.size w w' := by
  have kh := heavy_c p cap L w hst hlL
  have HS := Lib.hid hst
  clear hst
  by_cases hv : 8192 < hvF 0 L
  · rw [decide_eq_true hv] at kh
    go_enter Try.func3, Try.ntmps3
    go_wp2_with (first | (go_at_call 8; (with_reducible refine kh.mono ?_); rintro e w1 ⟨rfl, hb1⟩) | (go_at_call 9; refine (works_c _).mono ?_; rintro e w2 ⟨rfl, hb2⟩))
    go_ret
    exact ⟨rfl, bel_call hb1 hb2⟩
  rw [decide_eq_false hv] at kh
  have t1 := hv_tot L 0 (by omega)
  rw [Nat.zero_add] at t1
  have l1 := blen_tot L
  clear hv
  by_cases hm : most < 1 ∨ 4194304 < most
  · have k10 := fun W => new_no most W hm
    have k11 := fun W => rnew_no most W hm
    clear hm
    go_enter Try.func3, Try.ntmps3
    go_wp2_with fail
    refine kh.mono ?_
    rintro e w1 ⟨rfl, hb1⟩
    go_wp2_with fail
    refine (k10 _).mono ?_
    rintro e w2 ⟨rfl, hw2⟩
    subst hw2
    go_wp2_with fail
    refine (k11 _).mono ?_
    rintro e w3 ⟨rfl, hw3⟩
    subst hw3
    go_wp2_with (go_at_call 9; refine (works_c _).mono ?_; rintro e w4 ⟨rfl, hb4⟩)
    go_ret
    exact ⟨rfl, bel_call hb1 hb4⟩
  · have m0 : 1 ≤ most := by omega
    have m1 : most ≤ 4194304 := by omega
    have k10 := fun W => new_any most W m0 m1
    have k11 := fun W => rnew_any most W m0 m1
    clear hm
    go_enter Try.func3, Try.ntmps3
    go_wp2_with fail
    refine kh.mono ?_
    rintro e w1 ⟨rfl, hb1⟩
    go_wp2_with fail
    refine (k10 _).mono ?_
    rintro e w2 ⟨rfl, hd, hb2⟩
    go_wp2_with fail
    refine (k11 _).mono ?_
    rintro e w3 ⟨rfl, hr, hb3⟩
    obtain ⟨D, R, ρ, hD, hR, hp⟩ : ∃ D R ρ, w1.heap.size = D ∧ w2.heap.size = R ∧ Pair w D R (dk0 most) (rk0 most) ρ w3 := by
      refine ⟨_, _, fun k => if k = w1.heap.size then 1 else if k = w2.heap.size then 5 else 0, rfl, rfl, ?_⟩
      have s1 := hb1.size
      have hd1 := hd (fun k => if k = w1.heap.size then 1 else 0) w.heap.size s1 (if_pos rfl) (fun k hk => if_neg (by omega))
      have hlt := hd1.lt
      have hr1 := hr (fun k => if k = w1.heap.size then 1 else if k = w2.heap.size then 5 else 0) (by show (if w2.heap.size = w1.heap.size then 1 else if w2.heap.size = w2.heap.size then 5 else 0) = 5; rw [if_neg (by omega), if_pos rfl]) (fun k hk => by show (if k = w1.heap.size then 1 else if k = w2.heap.size then 5 else 0) = 0; rw [if_neg (by omega), if_neg (by omega)])
      have hlt2 := hr1.lt
      refine ⟨hd1.other hb3.size (fun g hg _ => ⟨?_, hb3.block g hg⟩) (fun k hk => ?_), hr1, fun g hg => ?_, bel_call (bel_call hb1 hb2) hb3⟩
      · show (if g = w1.heap.size then 1 else if g = w2.heap.size then 5 else 0) = if g = w1.heap.size then 1 else 0
        by_cases e : g = w1.heap.size
        · rw [if_pos e, if_pos e]
        · rw [if_neg e, if_neg e, if_neg (by omega)]
      · show (if k = w1.heap.size then 1 else if k = w2.heap.size then 5 else 0) = 0
        rw [if_neg (by omega), if_neg (by omega)]
      · show (if g = w1.heap.size then 1 else if g = w2.heap.size then 5 else 0) = 0
        rw [if_neg (by omega), if_neg (by omega)]
    rw [hD, hR]
    clear hd hr hb2 hb3 hb1 hD hR
    have hrel0 : Rel (dk0 most) (rk0 most) 0 0 := by
      refine ⟨fun f => ?_, rfl, rfl, fun e => ?_, fun _ => ?_, fun f => ?_, fun f => ?_, ?_, ?_⟩
      · rcases f with _ | f <;> rfl
      · cases e
      · show (-1 : Int) < 0; omega
      · rcases f with _ | f <;> simp [dk0, Dk.file, sizes]
      · rcases f with _ | f <;> simp [dk0, Dk.file]
      · show 0 ≤ most; omega
      · show most ≤ _; omega
    have HR0 := Lib.hid hrel0
    clear hrel0
    go_wp2_with fail
    go_loopw [9] (fun iv wr => ∃ (k : Nat) (d : Dk) (r : Rk) (ρ : Nat → Nat), k ≤ L.length ∧ iv = .int .i64 k ∧ Pair w D R d r ρ wr ∧ Rel d r k (blen (L.take k))) (fun i _ => L.length - (intOf i).toNat)
    case atStart => exact ⟨0, _, _, ρ, by omega, rfl, hp, by simpa [blen] using HR0.out⟩
    case round =>
      clear hp HR0
      obtain ⟨k, d, r, ρ, hk, rfl, hp, hrel⟩ := hrel
      by_cases hkl : k < L.length
      · have k0 : (0 : Int) ≤ k := by omega
        have k1 : (k : Int) < L.length := by omega
        obtain ⟨g, o, rfl, hc, hok⟩ := HS.out k hkl
        obtain ⟨c0, c1, c2, c3, c4⟩ := hc.keep hp.2.2.2
        have lt := blen_take L k
        have lm := memB L k hkl
        have kd := do_c hp hrel (by omega) (by omega) L[k] hok (by omega)
        rw [← blen_snoc L k hkl] at kd
        have lt2 := blen_take L (k + 1)
        unfold StepD.val at kd
        have KD := Lib.hid kd
        clear kd hrel hok hc hp
        go_wp2_with fail
        refine KD.out.mono ?_
        rintro e w4 ⟨rfl, d1, r1, hrel1, ρ1, hp1⟩
        have ok1 := hrel1.ok (by omega) (by omega)
        have ka := room_at hp1.1 ok1.1.1 ok1.1.2.1 ok1.1.2.2.1 ok1.1.2.2.2
        have kb := fun W (hb : Below w4.heap.size w4 W) => rroom_c (hp1.keep hb).2.1 ok1.2
        rw [hrel1.room (by omega) (by omega)] at kb
        generalize roomF d1 = z at ka kb
        have KA := Lib.hid ka
        have KB := Lib.hid kb
        have HREL := Lib.hid hrel1
        clear ka kb hrel1 ok1
        go_wp2_with fail
        refine KA.out.mono ?_
        rintro e w5 ⟨rfl, hb5⟩
        go_wp2_with fail
        refine (KB.out _ hb5).mono ?_
        rintro e w6 ⟨rfl, n6, rfl⟩
        go_wp2_with fail
        go_roundw
        case rel => exact ⟨k + 1, d1, r1, ρ1, by omega, by go_num, (hp1.keep hb5).keep (below_drewN _ _), HREL.out⟩
        case measure => simp [intOf]; omega
      · have hkk : k = L.length := by omega
        subst hkk
        go_wp2_with (go_at_call 9; refine (works_c _).mono ?_; rintro e w7 ⟨rfl, hb7⟩)
        go_ret
        exact ⟨rfl, bel_call hp.2.2.2 hb7⟩
end Go.Proofs.Ytfohemgfiidokaa.diskPlays
