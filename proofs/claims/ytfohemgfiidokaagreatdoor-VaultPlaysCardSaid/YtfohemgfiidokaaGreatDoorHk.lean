/- The walk of VaultPlays. -/
import Derived.Test.YtfohemgfiidokaaGreatDoorHj
import Derived.Test.YtfohemgfiidokaaGreatDoorKz
import Derived.Test.YtfohemgfiidokaaGreatDoorYy
namespace Go.Proofs.YtfohemgfiidokaaGreatDoor
open Go.RowKit Go.Sort

def dk0 (most : Int) : Dk := ⟨⟨[], []⟩, ⟨[], []⟩, most, false, false, 0⟩
theorem new_any (most : Int) (w : World) (h0 : 1 ≤ most) (h1 : most ≤ 4194304) :
    Calls Tryz.prog 6 #[.int .i64 most] w fun e w' => e = .returned (.tuple #[.pointer (some ⟨w.heap.size, 0, none⟩), .int .i64 0]) ∧ (∀ (ρ : Nat → Nat) (B : Nat), B ≤ w.heap.size → ρ w.heap.size = 1 → (∀ k, w.heap.size < k → ρ k = 0) → DiskAt w' ρ B w.heap.size (dk0 most)) ∧ Below w.heap.size w w' := by
  go_enter Tryz.func6, Tryz.ntmps6
  go_wp2
  go_ret2
  refine ⟨rfl, fun ρ B hB hρ hf => ?_, bel_alloc (Below.refl _ _) _⟩
  have hc : ∀ o u, (#[Value.slice none 0 0, .slice none 0 0, .slice none 0 0, .slice none 0 0, .int .i64 most, .bool false, .bool false, .int .i64 0] : Array Value)[o]? = some u → (w.alloc (.cells #[.slice none 0 0, .slice none 0 0, .slice none 0 0, .slice none 0 0, .int .i64 most, .bool false, .bool false, .int .i64 0] 64)).cell? ⟨w.heap.size, o, none⟩ = some u := fun o u hu => by
    rw [cell_of_row _ _ o _ _ _ (heap_alloc_new _ _)]; exact hu
  have hlo : ∀ r, LoR (w.alloc (.cells #[.slice none 0 0, .slice none 0 0, .slice none 0 0, .slice none 0 0, .int .i64 most, .bool false, .bool false, .int .i64 0] 64)) ρ B r (.slice none 0 0) [] := fun r => ⟨[], World.ownsRow_nil _ _ _ _, fun g hg => by simp [Value.ownBlock] at hg, fun j hj => by simp at hj⟩
  refine ⟨hB, hρ, fun k hk => hf k (by simp at hk; omega), ⟨.slice none 0 0, .slice none 0 0, hc 0 _ rfl, hc 1 _ rfl, .inl ⟨rfl, rfl⟩, hlo _⟩, ⟨.slice none 0 0, .slice none 0 0, hc 2 _ rfl, hc 3 _ rfl, .inl ⟨rfl, rfl⟩, hlo _⟩, hc 4 _ rfl, hc 5 _ rfl, hc 6 _ rfl, hc 7 _ rfl, fun o => frozen_of_row _ _ o _ _ (heap_alloc_new _ _)⟩
def growT : List StepV → Nat
  | [] => 0
  | s :: t => (44 + sizeI s.L + s.B.length) + growT t
theorem size_rows : ∀ l : List (List Int), sizeI l ≤ 3 * rowsT l ∧ l.length ≤ rowsT l
  | [] => by simp [sizeI, rowsT]
  | r :: t => by
    have := size_rows t
    simp only [sizeI, rowsT, List.length_cons]
    omega
theorem step_rows (s : StepV) : 44 + sizeI s.L + s.B.length ≤ 3 * stepT s := by
  have := size_rows s.L
  unfold stepT
  omega
theorem grow_tot : ∀ l : List StepV, growT l ≤ 3 * totV l ∧ 32 * l.length ≤ totV l
  | [] => by simp [growT, totV]
  | s :: t => by
    have := grow_tot t
    have h2 := step_rows s
    have h3 : 32 ≤ stepT s := by unfold stepT; omega
    simp only [growT, totV, List.length_cons]
    omega
theorem grow_app : ∀ l m : List StepV, growT (l ++ m) = growT l + growT m
  | [], m => by simp [growT]
  | a :: t, m => by rw [List.cons_append, growT, growT, grow_app t]; omega
theorem grow_next (L : List StepV) (q : Nat) (h : q < L.length) : growT (L.take (q + 1)) = growT (L.take q) + (44 + sizeI L[q].L + L[q].B.length) := by
  rw [List.take_succ_eq_append_getElem h, grow_app]
  rfl
theorem pr_new {w0 w : World} {D R : Nat} {d : Dk} {r : Rk} {k m : Nat} {ρ : Nat → Nat} (hp : Pair w0 D R d r ρ w) (hr : Rel d r k m) (hB : DBy d) :
    PR w0 D R w.heap.size d none k m (fun g => if g = w.heap.size then 4 else ρ g) (w.alloc (.cells #[.pointer (some ⟨D, 0, none⟩), .pointer (some ⟨R, 0, none⟩), .pointer none, .pointer none] 37)) := by
  have hb := bel_alloc (Below.refl w.heap.size w) (.cells #[.pointer (some ⟨D, 0, none⟩), .pointer (some ⟨R, 0, none⟩), .pointer none, .pointer none] 37)
  have hn := heap_alloc_new w (.cells #[.pointer (some ⟨D, 0, none⟩), .pointer (some ⟨R, 0, none⟩), .pointer none, .pointer none] 37)
  obtain ⟨h1, h2, h3, h4⟩ := hp
  have hs := h4.size
  have hf : ∀ g, (w.alloc (.cells #[.pointer (some ⟨D, 0, none⟩), .pointer (some ⟨R, 0, none⟩), .pointer none, .pointer none] 37)).heap.size ≤ g → (if g = w.heap.size then 4 else ρ g) = 0 := fun g hg => by
    have hs2 : (w.alloc (.cells #[.pointer (some ⟨D, 0, none⟩), .pointer (some ⟨R, 0, none⟩), .pointer none, .pointer none] 37)).heap.size = w.heap.size + 1 := by simp
    rw [if_neg (by omega)]; exact h2.fresh g (by omega)
  refine ⟨r, hr, ⟨h1.other hb.size (fun g hg _ => ⟨?_, hb.block g hg⟩) hf, h2.other (fun g hg _ _ => ⟨?_, hb.block g hg⟩) hf, fun g hg => ?_, bel_call h4 hb⟩, ⟨if_pos rfl, fun q => frozen_of_row _ _ q _ _ hn, cell_of_row _ _ 0 _ _ _ hn, cell_of_row _ _ 1 _ _ _ hn, cell_of_row _ _ 2 _ _ _ hn, cell_of_row _ _ 3 _ _ _ hn, fun V X x e => by cases e⟩, hB, fun V X x e => by cases e⟩
  · show (if g = w.heap.size then 4 else ρ g) = ρ g
    rw [if_neg (by omega)]
  · show (if g = w.heap.size then 4 else ρ g) = ρ g
    rw [if_neg (by omega)]
  · show (if g = w.heap.size then 4 else ρ g) = 0
    rw [if_neg (by omega)]; exact h3 g hg
theorem PR.below {w0 w : World} {D R P : Nat} {d : Dk} {o : Option (Nat × Nat × Va)} {k m : Nat} {ρ : Nat → Nat} (h : PR w0 D R P d o k m ρ w) : Below w0.heap.size w0 w := by
  obtain ⟨r, -, h2, -⟩ := h
  exact h2.2.2.2
theorem dk0_by (most : Int) : DBy (dk0 most) := by
  have h : FilB ⟨[], []⟩ := ⟨fun b hb => by simp at hb, fun b hb => by simp at hb⟩
  exact ⟨fun f => by
    rcases f with _ | f
    · exact h
    · exact h⟩
set_option maxRecDepth 100000 in
set_option maxHeartbeats 4000000 in
theorem plays_t (most : Int) (p : Option Addr) (cap : Nat) (L : List StepV) (w : World) (hst : StepsIn w p L) (hlL : L.length ≤ 10000000000000) (ht : KTab w) (hm0 : 0 ≤ most) (hm1 : most ≤ 65535) :
    Calls Tryz.prog 3 #[.int .u16 most, .slice p L.length cap] w fun e w' => e = .returned (.bool true) ∧ Below w.heap.size w w' := by
  have kh := heavy_c p cap L w hst hlL
  have hwm : IntKind.i64.wrap most = most := by rw [IntKind.wrap_i64]; omega
  have HT := Lib.hid ht
  have HS := Lib.hid hst
  have KW := Lib.hid (fun W (hb : Below w.heap.size w W) => works_c W (ht.call hb))
  clear hst ht
  by_cases hm : most < 1
  · have k10 := fun W => new_no most W (.inl hm)
    have k11 := fun W => rnew_no most W (.inl hm)
    clear hm
    go_enter Tryz.func3, Tryz.ntmps3
    go_wp2_with fail
    refine kh.mono ?_
    rintro e w1 ⟨b, rfl, -, hb1⟩
    cases b
    · go_wp2_with fail
      refine (k10 _).mono ?_
      rintro e w2 ⟨rfl, hw2⟩
      subst hw2
      go_wp2_with fail
      refine (k11 _).mono ?_
      rintro e w3 ⟨rfl, hw3⟩
      subst hw3
      go_wp2_with (go_at_call 5; refine (KW.out _ hb1).mono ?_; rintro e w4 ⟨rfl, hb4⟩)
      go_ret
      exact ⟨rfl, bel_call hb1 hb4⟩
    · go_wp2_with (go_at_call 5; refine (KW.out _ hb1).mono ?_; rintro e w4 ⟨rfl, hb4⟩)
      go_ret
      exact ⟨rfl, bel_call hb1 hb4⟩
  · have m0 : 1 ≤ most := by omega
    have m1 : most ≤ 4194304 := by omega
    have k10 := fun W => new_any most W m0 m1
    have k11 := fun W => rnew_any most W m0 m1
    have M0 := Lib.hid m0
    have M1 := Lib.hid m1
    clear hm m0 m1 hm0 hm1
    go_enter Tryz.func3, Tryz.ntmps3
    go_wp2_with fail
    refine kh.mono ?_
    rintro e w1 ⟨b, rfl, htot, hb1⟩
    cases b
    case true =>
      go_wp2_with (go_at_call 5; refine (KW.out _ hb1).mono ?_; rintro e w4 ⟨rfl, hb4⟩)
      go_ret
      exact ⟨rfl, bel_call hb1 hb4⟩
    have htot := htot rfl
    go_wp2_with fail
    refine (k10 _).mono ?_
    rintro e w2 ⟨rfl, hd, hb2⟩
    go_wp2_with fail
    refine (k11 _).mono ?_
    rintro e w3 ⟨rfl, hr, hb3⟩
    obtain ⟨D, R, ρ, hD, hR, hp⟩ : ∃ D R ρ, w1.heap.size = D ∧ w2.heap.size = R ∧ Pair w D R (dk0 most) (rk0 most) ρ w3 := by
      refine ⟨_, _, fun k => if k = w1.heap.size then 1 else if k = w2.heap.size then 5 else 0, rfl, rfl, ?_⟩
      have s1 := hb1.size
      have hd1 := hd (fun k => if k = w1.heap.size then 1 else 0) w.heap.size s1 (if_pos rfl) (fun k hk => if_neg (by omega))
      have hlt := hd1.lt
      have hr1 := hr (fun k => if k = w1.heap.size then 1 else if k = w2.heap.size then 5 else 0) (by show (if w2.heap.size = w1.heap.size then 1 else if w2.heap.size = w2.heap.size then 5 else 0) = 5; rw [if_neg (by omega), if_pos rfl]) (fun k hk => by show (if k = w1.heap.size then 1 else if k = w2.heap.size then 5 else 0) = 0; rw [if_neg (by omega), if_neg (by omega)])
      have hlt2 := hr1.lt
      refine ⟨hd1.other hb3.size (fun g hg _ => ⟨?_, hb3.block g hg⟩) (fun k hk => ?_), hr1, fun g hg => ?_, bel_call (bel_call hb1 hb2) hb3⟩
      · show (if g = w1.heap.size then 1 else if g = w2.heap.size then 5 else 0) = if g = w1.heap.size then 1 else 0
        by_cases e : g = w1.heap.size
        · rw [if_pos e, if_pos e]
        · rw [if_neg e, if_neg e, if_neg (by omega)]
      · show (if k = w1.heap.size then 1 else if k = w2.heap.size then 5 else 0) = 0
        rw [if_neg (by omega), if_neg (by omega)]
      · show (if g = w1.heap.size then 1 else if g = w2.heap.size then 5 else 0) = 0
        rw [if_neg (by omega), if_neg (by omega)]
    rw [hD, hR]
    clear hd hr hb2 hb3 hb1 hD hR kh k10 k11
    have hrel0 : Rel (dk0 most) (rk0 most) 0 0 := by
      refine ⟨fun f => ?_, rfl, rfl, fun e => ?_, fun _ => ?_, fun f => ?_, fun f => ?_, ?_, ?_⟩
      · rcases f with _ | f <;> rfl
      · cases e
      · show (-1 : Int) < 0; omega
      · rcases f with _ | f <;> simp [dk0, Dk.file, sizes]
      · rcases f with _ | f <;> simp [dk0, Dk.file]
      · show 0 ≤ most; have := M0.out; omega
      · exact M1.out
    have hpr := pr_new hp hrel0 (dk0_by most)
    have HPR := Lib.hid hpr
    have HTOT := Lib.hid htot
    clear hrel0 hpr hp htot
    go_upto_region 10 with fail
    refine wp_gen (fun W => ∃ P ρ, P = w3.heap.size ∧ PR w D R P (dk0 most) none 0 0 ρ W) ⟨_, _, rfl, HPR.out⟩ ?_
    generalize hPe : w3.heap.size = P
    rintro W ⟨P', ρ', rfl, hpr⟩
    clear HPR hPe
    have kop := popen_c hpr (by omega) (by omega) HT.out
    have KOP := Lib.hid kop
    clear kop hpr
    go_upto_region 13 with (first
      | (go_at_call 8; go_loud ((with_reducible refine KOP.out.mono ?_); rintro e w4 ⟨rfl, d1, o1, ρ1, hpr1, -⟩))
      | (go_at_call 9; go_loud ((with_reducible refine (palike_c hpr1 (by omega) (by omega)).mono ?_); rintro e w5 ⟨rfl, b5⟩; have hpr1 := hpr1.keep b5))
      | fail)
    go_loopw [10] (fun iv wr => ∃ (j : Nat) (d : Dk) (o : Option (Nat × Nat × Va)) (ρ : Nat → Nat), j ≤ L.length ∧ iv = .int .i64 j ∧ PR w D R P' d o (3 + 3 * j) (44 + growT (L.take j)) ρ wr) (fun i _ => L.length - (intOf i).toNat)
    case atStart => exact ⟨0, d1, o1, ρ1, by omega, rfl, hpr1.up (by omega) (by simp [growT])⟩
    case round =>
      clear hpr1
      obtain ⟨j, d, o, ρ2, hj, rfl, hpr2⟩ := hrel
      by_cases hjl : j < L.length
      · have k0 : (0 : Int) ≤ j := by omega
        have k1 : (j : Int) < L.length := by omega
        obtain ⟨g, q, rfl, hc, hok⟩ := HS.out j hjl
        obtain ⟨c0, c1, c2, c3, c4, c5, c6⟩ := hc.keep hpr2.below
        have q1 := totV_take L j
        have q2 := totV_take L (j + 1)
        rw [totV_next L j hjl] at q2
        have q3 := grow_tot (L.take j)
        have q4 := step_rows L[j]
        have q5 := size_rows L[j].L
        have q6 := HTOT.out
        rw [List.length_take, Nat.min_eq_left hj] at q3
        have q7 : L[j].B.length ≤ stepT L[j] ∧ rowsT L[j].L ≤ stepT L[j] := by unfold stepT; omega
        have kd := pdo_c hpr2 (by omega) (by omega) HT.out L[j] hok (by omega) (by omega) (by omega)
        have hgn := grow_next L j hjl
        have ka := fun W2 d2 o2 ρ3 (h : PR w D R P' d2 o2 (3 + 3 * j + 3) (44 + growT (L.take j) + (44 + sizeI L[j].L) + L[j].B.length) ρ3 W2) => palike_c h (by omega) (by omega)
        have hnx : 3 + 3 * j + 3 ≤ 3 + 3 * (j + 1) ∧ 44 + growT (L.take j) + (44 + sizeI L[j].L) + L[j].B.length ≤ 44 + growT (L.take (j + 1)) := by rw [hgn]; omega
        unfold StepV.cellsV at kd
        have KD := Lib.hid kd
        have KA := Lib.hid ka
        have HNX := Lib.hid hnx
        clear kd ka hok hc hpr2 q1 q2 q3 q4 q5 q6 q7 hgn hnx
        go_wp2_with (first
          | (go_at_call 10; go_loud ((with_reducible refine KD.out.mono ?_); rintro e w6 ⟨rfl, d3, o3, ρ3, hpr3, -⟩))
          | (go_at_call 9; go_loud ((with_reducible refine (KA.out _ _ _ _ hpr3).mono ?_); rintro e w7 ⟨rfl, b7⟩; have hpr3 := hpr3.keep b7))
          | fail)
        exact ⟨⟨j + 1, d3, o3, ρ3, by omega, by go_num, hpr3.up HNX.out.1 HNX.out.2⟩, by simp [intOf]; omega⟩
      · obtain rfl : j = L.length := by omega
        have hbw := hpr2.below
        clear hpr2
        go_wp2_with (go_at_call 5; refine (KW.out _ hbw).mono ?_; rintro e w8 ⟨rfl, hb8⟩)
        go_ret
        exact ⟨rfl, bel_call hbw hb8⟩
theorem plays_w (most : Int) (v : Value) (L : List StepV) (w : World) (hm0 : 0 ≤ most) (hm1 : most ≤ 65535) (hv : ∃ p cap, v = .slice p L.length cap ∧ StepsIn w p L) (hl : L.length ≤ 10000000000000) (ht : KTab w) :
    Calls Tryz.prog 3 #[.int .u16 most, v] w fun e w' => e = .returned (.bool true) ∧ Below w.heap.size w w' := by
  obtain ⟨p, cap, rfl, hs⟩ := hv
  exact plays_t most p cap L w hs hl ht hm0 hm1
end Go.Proofs.YtfohemgfiidokaaGreatDoor
