/- Contract of big.Div: quotient and rest of any number by any other. -/
import Derived.Test.YtefnlmiephombaaMem
import Derived.Test.YtefnlmiephombaaDv
import Derived.BigQuiet
import Derived.Deep.Cut
import Derived.Lib.Hide
namespace Go.Proofs.Ytefnlmiephombaa
open Go.RowKit Go.Sort

set_option maxHeartbeats 1000000 in
theorem div_yes (A D : Int) (w : World) (h1 : 0 ≤ A) (h2 : A < M) (h3 : 0 < D) (h4 : D < M)
   (heq : ∀ w, (binOp .eql 24 (.agg #[.int .u64 (L0 D), .int .u64 (L1 D), .int .u64 (L2 D), .int .u64 (L3 D)]) (.agg #[.int .u64 0, .int .u64 0, .int .u64 0, .int .u64 0])).run Try.prog w = .ok (.bool false) w) :
    Calls Try.prog 14 #[big A, big D] w fun e w' => e = .returned (.tuple #[big (A / D), big (A % D), .int .i64 0]) ∧ Below w.heap.size w w' := by
  unfold big
  go_enter Try.func14, Try.ntmps14
  go_wp2_with fail
  refine wp_gen (fun W => Cells4 W w.heap.size A ∧ Cells4 W (w.heap.size + 1) D ∧ Cells4 W (w.heap.size + 1 + 1) 0 ∧ Cells4 W (w.heap.size + 1 + 1 + 1) 0 ∧ Below w.heap.size w W) ⟨?_, ?_, ?_, ?_, ?_⟩ ?_
  · exact (((cells4_new w A).alloc _).alloc _).alloc _
  · exact ((cells4_new' (w.alloc _) _ D (by simp)).alloc _).alloc _
  · exact ((cells4_new' ((w.alloc _).alloc _) _ 0 (by simp)).alloc _)
  · exact (cells4_new' (((w.alloc _).alloc _).alloc _) _ 0 (by simp))
  · exact bel_alloc (bel_alloc (bel_alloc (bel_alloc (Below.refl _ _) _) _) _) _
  rintro W ⟨cA, cD, cQ, cR, hB⟩
  have nA := bl_nn A
  have nD := bl_nn D
  have lA : bl A ≤ 256 := (bl_le_iff A h1 256).2 h2
  have lD : bl D ≤ 256 := (bl_le_iff D (by omega) 256).2 h4
  have hroom := div_room A D h1 h2 h3 h4
  have hn : IntKind.i64.wrap (bl A - bl D) = bl A - bl D := IntWalk.i64_in _ (by omega)
  have kA := fun d os => (cA.regrown d os).c0
  have kA1 := fun d os => (cA.regrown d os).c1
  have kA2 := fun d os => (cA.regrown d os).c2
  have kA3 := fun d os => (cA.regrown d os).c3
  have kD := fun d os => (cD.regrown d os).c0
  have kD1 := fun d os => (cD.regrown d os).c1
  have kD2 := fun d os => (cD.regrown d os).c2
  have kD3 := fun d os => (cD.regrown d os).c3
  have bA : ∀ d os, Calls Try.prog 22 #[big A] (grow (redrawn W d) os) fun e w'' => e = .returned (.int .i64 (bl A)) ∧ ∃ p : Regrown, w'' = grow (redrawn W p.d) p.os := fun d os => Calls.regrown_of (by have := bits_c A (grow (redrawn W d) os); rwa [m_of A h1 h2] at this)
  have bD : ∀ d os, Calls Try.prog 22 #[big D] (grow (redrawn W d) os) fun e w'' => e = .returned (.int .i64 (bl D)) ∧ ∃ p : Regrown, w'' = grow (redrawn W p.d) p.os := fun d os => Calls.regrown_of (by have := bits_c D (grow (redrawn W d) os); rwa [m_of D (by omega) h4] at this)
  unfold big at bA bD
  refine wp_region_quiet_below (by kernel_rfl) (by kernel_rfl) ?_
  repeat (quiet_step (first | with_reducible exact bA _ _ | with_reducible exact bD _ _))
  refine wpQuiet_nil ?_
  intro W1 hw'
  have cA1 : Cells4 W1 w.heap.size A := by obtain ⟨p, rfl⟩ := hw'; exact cA.regrown _ _
  have cD1 : Cells4 W1 (w.heap.size + 1) D := by obtain ⟨p, rfl⟩ := hw'; exact cD.regrown _ _
  have cQ1 : Cells4 W1 (w.heap.size + 1 + 1) 0 := by obtain ⟨p, rfl⟩ := hw'; exact cQ.regrown _ _
  have cR1 : Cells4 W1 (w.heap.size + 1 + 1 + 1) 0 := by obtain ⟨p, rfl⟩ := hw'; exact cR.regrown _ _
  have hB1 : Below w.heap.size w W1 := by obtain ⟨p, rfl⟩ := hw'; exact hB.trans ((below_regrown W _ _).mono hB.size)
  clear hw' kA kA1 kA2 kA3 kD kD1 kD2 kD3 bA bD cA cD cQ cR hB hn
  clear W
  obtain ⟨d0, d1, d2, d3, _, _, _, _⟩ := cD1
  have hsz := cR1.lt
  go_wp2_with (go_at_call 16; refine (up_c D (bl A - bl D) (by omega) _).mono ?_; unfold big; rintro e w1 ⟨rfl, hb⟩)
  have hs1 := hb.size
  refine wp_gen (fun wr => Cells4 wr w.heap.size A ∧ Cells4 wr (w.heap.size + 1 + 1) 0 ∧ Cells4 wr (w.heap.size + 1 + 1 + 1) 0 ∧ Cells4 wr w1.heap.size (upv D (bl A - bl D)) ∧ Below w.heap.size w wr)
    ⟨(cA1.below hb cA1.lt).alloc _, (cQ1.below hb cQ1.lt).alloc _, (cR1.below hb cR1.lt).alloc _, cells4_new _ _, bel_alloc (bel_call hB1 hb) _⟩ ?_
  generalize w1.heap.size = P at *
  clear hb w1 d0 d1 d2 d3 cA1 cQ1 cR1 hB1
  rintro wr ⟨cA, cQ, cR, cP, hB⟩
  have hP : w.heap.size + 1 + 1 + 1 < P := by omega
  have hPs : P < wr.heap.size := cP.lt
  go_loopw [26] (fun i wx => ∃ (k : Nat) (q a p : Int), (k : Int) ≤ max (bl A - bl D + 1) 0 ∧ i = .int .i64 k ∧ Cells4 wx w.heap.size a ∧ Cells4 wx (w.heap.size + 1 + 1) q ∧ Cells4 wx (w.heap.size + 1 + 1 + 1) 0 ∧ Cells4 wx P p ∧ Below w.heap.size w wx ∧ DivSt A D (bl A - bl D) k q a p)
    (fun i _ => (bl A - bl D + 1 - intOf i).toNat)
  case atStart => exact ⟨0, 0, A, _, by omega, rfl, cA, cQ, cR, cP, hB, div_start A D h1 h3⟩
  case round =>
    obtain ⟨k, q, a, p, hk, rfl, cA, cQ, cR, cP, hB, hst⟩ := hrel
    by_cases hlt : (k : Int) < bl A - bl D + 1
    · have hpos : 0 ≤ q ∧ 0 ≤ a := ⟨hst.1, hst.2.1⟩
      obtain ⟨q0, q1, q2, q3, q4, q5, q6, q7⟩ := id cQ
      obtain ⟨a0, a1, a2, a3, a4, a5, a6, a7⟩ := id cA
      obtain ⟨p0, p1, p2, p3, p4, p5, p6, p7⟩ := id cP
      have sA := cA.lt
      have sQ := cQ.lt
      have sR := cR.lt
      have sP := cP.lt
      go_upto_region 8 with (go_at_call 16; refine (up_c q 1 (by omega) _).mono ?_; unfold big; rintro e w1 ⟨rfl, hb⟩; obtain ⟨hc, hf⟩ := bcell hb; have hs := hb.size)
      refine wp_gen (fun wy => Cells4 wy w.heap.size a ∧ Cells4 wy (w.heap.size + 1 + 1) (upv q 1) ∧ Cells4 wy (w.heap.size + 1 + 1 + 1) 0 ∧ Cells4 wy P p ∧ Below w.heap.size w wy) ⟨?_, ?_, ?_, ?_, ?_⟩ ?_
      · exact (cA.below hb sA).put_other (by omega) _
      · exact (cQ.below hb sQ).put _
      · exact (cR.below hb sR).put_other (by omega) _
      · exact (cP.below hb sP).put_other (by omega) _
      · exact below_put4 (bel_call hB hb) (by omega) _
      clear hc hf hs hb w1 q0 q1 q2 q3 q4 q5 q6 q7 a0 a1 a2 a3 a4 a5 a6 a7 p0 p1 p2 p3 p4 p5 p6 p7 cA cQ cR cP hB sA sQ sR sP
      clear wr
      rintro wy ⟨cA, cQ, cR, cP, hB⟩
      obtain ⟨a0, a1, a2, a3, -, -, -, -⟩ := id cA
      obtain ⟨p0, p1, p2, p3, -, -, -, -⟩ := id cP
      have sA := cA.lt
      have sQ := cQ.lt
      have sR := cR.lt
      have sP := cP.lt
      go_upto_region 9 with (go_at_call 24; refine (sub_c a p _).mono ?_; unfold big; rintro e w1 ⟨rfl, hb⟩; have hs := hb.size)
      refine wp_gen (fun wy => Cells4 wy w.heap.size a ∧ Cells4 wy (w.heap.size + 1 + 1) (upv q 1) ∧ Cells4 wy (w.heap.size + 1 + 1 + 1) 0 ∧ Cells4 wy P p ∧ Cells4 wy w1.heap.size (a - p) ∧ Below w.heap.size w wy) ⟨?_, ?_, ?_, ?_, ?_, ?_⟩ ?_
      · exact (cA.below hb sA).alloc _
      · exact (cQ.below hb sQ).alloc _
      · exact (cR.below hb sR).alloc _
      · exact (cP.below hb sP).alloc _
      · exact cells4_new _ _
      · exact bel_alloc (bel_call hB hb) _
      have hEP : P < w1.heap.size := by omega
      generalize w1.heap.size = E at hEP
      clear hs hb w1 a0 a1 a2 a3 p0 p1 p2 p3 cA cQ cR cP hB sA sQ sR sP
      clear wy
      rintro wy ⟨cA, cQ, cR, cP, cE, hB⟩
      by_cases hap : m a < m p
      · obtain ⟨p0, p1, p2, p3, p4, p5, p6, p7⟩ := id cP
        have hd : decide (m a < m p) = true := by simpa using hap
        have sA := cA.lt
        have sQ := cQ.lt
        have sR := cR.lt
        have sP := cP.lt
        go_wp2_with (go_at_call 18; refine (down_c p 1 _).mono ?_; unfold big; rintro e w2 ⟨rfl, hb⟩; obtain ⟨hc, hf⟩ := bcell hb; have hs := hb.size)
        go_roundw
        case rel => exact ⟨k + 1, _, _, _, by omega, by go_num, (cA.below hb sA).put_other (by omega) _, (cQ.below hb sQ).put_other (by omega) _, (cR.below hb sR).put_other (by omega) _, (cP.below hb sP).put _, below_put4 (bel_call hB hb) (by omega) _, divSt_lt hst (by omega) h2 h3 hroom hap⟩
        case measure => simp [intOf]; omega
      · obtain ⟨p0, p1, p2, p3, p4, p5, p6, p7⟩ := id cP
        obtain ⟨q0, q1, q2, q3, q4, q5, q6, q7⟩ := id cQ
        obtain ⟨a0, a1, a2, a3, a4, a5, a6, a7⟩ := id cA
        obtain ⟨d0, d1, d2, d3, -, -, -, -⟩ := id cE
        have hd : decide (m a < m p) = false := by simpa using hap
        have sA := cA.lt
        have sQ := cQ.lt
        have sR := cR.lt
        have sP := cP.lt
        obtain ⟨hqq, i1, i2, i3⟩ := inc_words q
        have I1 := Lib.hid i1; have I2 := Lib.hid i2; have I3 := Lib.hid i3
        clear i1 i2 i3
        go_upto_region 12 with (fail)
        refine wp_gen (fun wz => Cells4 wz w.heap.size (a - p) ∧ Cells4 wz (w.heap.size + 1 + 1) (upv q 1 + 1) ∧ Cells4 wz (w.heap.size + 1 + 1 + 1) 0 ∧ Cells4 wz P p ∧ Below w.heap.size w wz) ⟨?_, ?_, ?_, ?_, ?_⟩ ?_
        · exact (cA.put _).set_other (by omega) _
        · exact (cQ.put_other (by omega) _).set0 _ I1.out I2.out I3.out
        · exact (cR.put_other (by omega) _).set_other (by omega) _
        · exact (cP.put_other (by omega) _).set_other (by omega) _
        · exact (below_put4 hB (by omega) _).setCell (p := ⟨_, 0, none⟩) (by simp; omega) _
        clear hqq I1 I2 I3 p0 p1 p2 p3 p4 p5 p6 p7 q0 q1 q2 q3 q4 q5 q6 q7 a0 a1 a2 a3 a4 a5 a6 a7 d0 d1 d2 d3 sA sQ sR sP cA cQ cR cP cE hB
        clear wy
        rintro wy ⟨cA, cQ, cR, cP, hB⟩
        obtain ⟨p0, p1, p2, p3, p4, p5, p6, p7⟩ := id cP
        have sA := cA.lt
        have sQ := cQ.lt
        have sR := cR.lt
        have sP := cP.lt
        go_wp2_with (go_at_call 18; refine (down_c p 1 _).mono ?_; unfold big; rintro e w2 ⟨rfl, hb⟩; obtain ⟨hc, hf⟩ := bcell hb; have hs := hb.size)
        go_roundw
        case rel => exact ⟨k + 1, _, _, _, by omega, by go_num, (cA.below hb sA).put_other (by omega) _, (cQ.below hb sQ).put_other (by omega) _, (cR.below hb sR).put_other (by omega) _, (cP.below hb sP).put _, below_put4 (bel_call hB hb) (by omega) _, divSt_ge hst (by omega) h2 h3 hroom (by omega)⟩
        case measure => simp [intOf]; omega
    · obtain ⟨e1, e2⟩ := div_end hst hlt h3
      have E1 := Lib.hid e1; have E2 := Lib.hid e2
      clear e1 e2
      obtain ⟨q0, q1, q2, q3, q4, q5, q6, q7⟩ := id cQ
      obtain ⟨a0, a1, a2, a3, a4, a5, a6, a7⟩ := id cA
      obtain ⟨r0, r1, r2, r3, r4, r5, r6, r7⟩ := id cR
      go_wp2_with fail
      go_region
      all_goals go_wp2
      exact bodyPost_ret (v := .tuple #[.agg #[.int .u64 (L0 q), .int .u64 (L1 q), .int .u64 (L2 q), .int .u64 (L3 q)], .agg #[.int .u64 (L0 a), .int .u64 (L1 a), .int .u64 (L2 a), .int .u64 (L3 a)], .int .i64 0]) (by simp [results, Try.results14, go_sem, q0, q1, q2, q3, r0, r1, r2, r3]) rfl
        ⟨by rw [E1.out, E2.out], (below_put4 (below_put4 hB (by omega) q) (by omega) a).drew⟩

set_option maxHeartbeats 400000 in
theorem div_no (A D : Int) (w : World)
   (heq : ∀ w, (binOp .eql 24 (.agg #[.int .u64 (L0 D), .int .u64 (L1 D), .int .u64 (L2 D), .int .u64 (L3 D)]) (.agg #[.int .u64 0, .int .u64 0, .int .u64 0, .int .u64 0])).run Try.prog w = .ok (.bool true) w) :
    Calls Try.prog 14 #[big A, big D] w fun e w' => e = .returned (.tuple #[big 0, big 0, .int .i64 1]) ∧ Below w.heap.size w w' := by
  unfold big
  go_enter Try.func14, Try.ntmps14
  go_wp2_with fail
  go_region
  all_goals go_wp2
  exact bodyPost_ret (v := .tuple #[.agg #[.int .u64 0, .int .u64 0, .int .u64 0, .int .u64 0], .agg #[.int .u64 0, .int .u64 0, .int .u64 0, .int .u64 0], .int .i64 1]) (by simp [results, Try.results14, go_sem]) rfl
    ⟨rfl, by repeat (first | exact Below.refl _ _ | refine bel_drew ?_ | refine bel_alloc ?_ _)⟩

/-- what Div answers besides quotient and rest -/
def divErr (y : Int) : Int := if m y = 0 then 1 else 0

theorem div_c (x y : Int) (w : World) :
    Calls Try.prog 14 #[big x, big y] w fun e w' => e = .returned (.tuple #[big (if m y = 0 then 0 else m x / m y), big (if m y = 0 then 0 else m x % m y), .int .i64 (divErr y)]) ∧ Below w.heap.size w w' := by
  unfold divErr
  by_cases h : m y = 0
  · simp only [h, if_true]
    refine div_no x y w fun w => ?_
    have := eq_run y 0 w
    rw [h, show m 0 = 0 from rfl] at this
    exact this
  · simp only [h, if_false]
    rw [← big_m x, ← big_m y]
    refine div_yes (m x) (m y) w (m_nn x) (m_lt x) (by have := m_nn y; omega) (m_lt y) fun w => ?_
    have := eq_run (m y) 0 w
    rw [m_m, show (m y == m 0) = false by rw [show m 0 = 0 from rfl]; simpa using h] at this
    exact this
end Go.Proofs.Ytefnlmiephombaa
