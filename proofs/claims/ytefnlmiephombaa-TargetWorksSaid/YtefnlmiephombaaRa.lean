/- Rows of bits in memory; the contract of scantlingref02.Add. -/
import Derived.Test.YtefnlmiephombaaRf
namespace Go.Proofs.Ytefnlmiephombaa
open Go.RowKit Go.Sort

theorem Try.info3 : (Try.prog.info? 3).map (fun i => (i.zero, i.size, i.bytes)) = some (some (.int .i64 0), 1, 8) := by kernel_rfl

theorem ownsRow_below {w w' : World} {B : Nat} {e : TypeId} {size n : Nat} {v : Value} {xs : List Value} (h : w.ownsRow B e size v n xs) (hb : Below w.heap.size w w') : w'.ownsRow B e size v n xs := by
  obtain ⟨h1, h2⟩ := h
  refine ⟨h1, ?_⟩
  rcases h2 with h2 | ⟨g, cap, cur, e1, e2, e3, e4⟩
  · exact .inl h2
  · have hg : g < w.heap.size := by
      by_cases hlt : g < w.heap.size
      · exact hlt
      · rw [Array.getElem?_eq_none (by omega)] at e3; cases e3
    exact .inr ⟨g, cap, cur, e1, e2, by rw [hb.block g hg]; exact e3, e4⟩

theorem row_below {W0 wr w1 : World} {l : Value} {k : Nat} {o : Obj} {xs : List Value} (hown : wr.ownsRow W0.heap.size 3 1 l k xs) (hB : Below W0.heap.size W0 wr) (hgrow : (wr.alloc o).grownBy w1 l.ownBlock) : Below W0.heap.size W0 w1 := by
  refine (hB.alloc hB.size o).grown hgrow ?_ fun j hj => (hown.lt j hj).1
  have := hB.size
  simp; omega

/-- 'From' of a row that the caller owns -/
theorem from_row (B : Nat) (v : Value) (bs : List Int) (hl : bs.length = 256 ∨ bs.length = 320) (hbs : Bits bs) (w : World) (hown : w.ownsRow B 3 1 v bs.length (bs.map (Value.int .i64))) :
    Calls Try.prog 49 #[v] w fun e w' => e = .returned (big (ofBits (bs.take 256))) ∧ Below w.heap.size w w' := by
  obtain ⟨h1, h2⟩ := hown
  rcases h2 with ⟨-, h2⟩ | ⟨g, cap, cur, e1, e2, e3, e4, e5, e6, e7⟩
  · omega
  · have hg : g < w.heap.size := by
      by_cases hlt : g < w.heap.size
      · exact hlt
      · rw [Array.getElem?_eq_none (by omega)] at e3; cases e3
    rw [e1]
    refine from_c g 0 bs.length cap bs rfl hbs (by omega) (by omega) w hg fun j hj => ?_
    have hjc : j < cur.size := by omega
    have : cur[j]? = some (.int .i64 (bs[j]?.getD 0)) := by
      have h := congrArg (fun l : List Value => l[j]?) e7
      simp only [List.getElem?_take, List.getElem?_map] at h
      rw [if_pos (by omega), List.getElem?_eq_getElem hj] at h
      rw [List.getElem?_eq_getElem hj]
      simpa using h
    simp [World.cell?, e3, this]

/-- the carry into bit k -/
def cy (x y : Int) (k : Nat) : Int := (x % 2 ^ k + y % 2 ^ k) / 2 ^ k
theorem mod_succ (x : Int) (k : Nat) : x % 2 ^ (k + 1) = x % 2 ^ k + bt x k * 2 ^ k := by
  have h := ofBits_rowB x (k + 1)
  rw [rowB_succ, ofBits_snoc, ofBits_rowB, rowB_length] at h
  exact h.symm
theorem cy_bd (x y : Int) (k : Nat) : 0 ≤ cy x y k ∧ cy x y k ≤ 1 := by
  have hp := pow_pos' k
  have h1 := Int.emod_nonneg x (b := 2 ^ k) (by omega)
  have h2 := Int.emod_lt_of_pos x hp
  have h3 := Int.emod_nonneg y (b := 2 ^ k) (by omega)
  have h4 := Int.emod_lt_of_pos y hp
  unfold cy
  refine ⟨Int.ediv_nonneg (by omega) (by omega), ?_⟩
  have : (x % 2 ^ k + y % 2 ^ k) / 2 ^ k < 2 := Int.ediv_lt_of_lt_mul hp (by omega)
  omega
theorem cy_step (x y : Int) (k : Nat) : (bt x k + bt y k + cy x y k) % 2 = bt (x + y) k ∧ (bt x k + bt y k + cy x y k) / 2 = cy x y (k + 1) := by
  have hp := pow_pos' k
  have e1 : ∀ z : Int, z / 2 ^ k = 2 * (z / 2 ^ (k + 1)) + bt z k := by
    intro z
    have : z / 2 ^ (k + 1) = z / 2 ^ k / 2 := by rw [Int.pow_succ, Int.ediv_ediv_of_nonneg (by omega)]
    rw [this]; unfold bt; omega
  have d1 := Int.mul_ediv_add_emod x (2 ^ k)
  have d2 := Int.mul_ediv_add_emod y (2 ^ k)
  have e2 : (x + y) / 2 ^ k = x / 2 ^ k + y / 2 ^ k + cy x y k := by
    unfold cy
    have : x + y = (x % 2 ^ k + y % 2 ^ k) + 2 ^ k * (x / 2 ^ k + y / 2 ^ k) := by rw [Int.mul_add]; omega
    conv => lhs; rw [this]
    rw [Int.add_mul_ediv_left _ _ (by omega)]; omega
  have a := e1 x
  have b := e1 y
  have c := e1 (x + y)
  constructor
  · have := (bt_bd (x + y) k)
    omega
  · unfold cy
    rw [mod_succ x k, mod_succ y k, Int.pow_succ, ← Int.ediv_ediv_of_nonneg (by omega)]
    congr 1
    rw [show x % 2 ^ k + bt x k * 2 ^ k + (y % 2 ^ k + bt y k * 2 ^ k) = (x % 2 ^ k + y % 2 ^ k) + (bt x k + bt y k) * 2 ^ k by rw [Int.add_mul]; omega, Int.add_mul_ediv_right _ _ (by omega)]
    omega
theorem cy_end (x y : Int) : (cy x y 256 == 1) = decide (M ≤ m x + m y) := by
  have h := cy_bd x y 256
  have e : cy x y 256 = (m x + m y) / M := by unfold cy; rw [← M_two]; rfl
  rw [e] at h ⊢
  have hM : 0 < M := by decide +kernel
  have d := Int.mul_ediv_add_emod (m x + m y) M
  have r0 := Int.emod_nonneg (m x + m y) (b := M) (by omega)
  have r1 := Int.emod_lt_of_pos (m x + m y) hM
  have hc : (m x + m y) / M = 0 ∨ (m x + m y) / M = 1 := by omega
  rcases hc with hc | hc <;> rw [hc] at d ⊢
  · simp; omega
  · simp; omega

set_option maxRecDepth 100000 in
set_option maxHeartbeats 1600000 in
theorem radd_c (x y : Int) (w : World) :
    Calls Try.prog 25 #[big x, big y] w fun e w' => e = .returned (.tuple #[big (x + y), .bool (decide (M ≤ m x + m y))]) ∧ Below w.heap.size w w' := by
  obtain ⟨i0, hi, hz0, hz1, hz2⟩ := info_parts Try.info3
  rw [← cy_end]
  unfold big
  go_enter Try.func25, Try.ntmps25
  go_wp2
  refine wp_gen (fun W => Cells4 W w.heap.size x ∧ Cells4 W (w.heap.size + 1) y ∧ Cells4 W (w.heap.size + 1 + 1) 0 ∧ Below w.heap.size w W) ⟨((cells4_new w x).alloc _).alloc _, (cells4_new' (w.alloc _) _ y (by simp)).alloc _, cells4_new' ((w.alloc _).alloc _) _ 0 (by simp), bel_alloc (bel_alloc (bel_alloc (Below.refl _ _) _) _) _⟩ ?_
  rintro W0 ⟨cx, cy', cz, hB0⟩
  have hsz0 := hB0.size
  go_loopw [6, 7, 8] (fun l mo i wr => ∃ k : Nat, k ≤ 256 ∧ i = .int .i64 k ∧ mo = .int .i64 (cy x y k) ∧ wr.ownsRow W0.heap.size 3 1 l k ((rowB (x + y) k).map (Value.int .i64)) ∧ Below W0.heap.size W0 wr) (fun _ _ i _ => 256 - (intOf i).toNat)
  case atStart => exact ⟨0, by omega, rfl, by simp [cy], World.ownsRow_nil _ _ _ _, Below.refl _ _⟩
  case round =>
    obtain ⟨k, hk, rfl, rfl, hown, hB⟩ := hrel
    by_cases hlt : k < 256
    · have ax := bt_bd x k
      have ay := bt_bd y k
      have ac := cy_bd x y k
      obtain ⟨s1, s2⟩ := cy_step x y k
      have c1 := cx.call hB
      have c2 := cy'.call hB
      have kx : ∀ w, Calls Try.prog 48 #[.agg #[.int .u64 (L0 x), .int .u64 (L1 x), .int .u64 (L2 x), .int .u64 (L3 x)], .int .i64 k] w fun e w' => e = .returned (.int .i64 (bt x k)) ∧ Below w.heap.size w w' := fun w => by
        have := bit_c x k w
        rwa [bitv_nat x k hlt] at this
      have ky : ∀ w, Calls Try.prog 48 #[.agg #[.int .u64 (L0 y), .int .u64 (L1 y), .int .u64 (L2 y), .int .u64 (L3 y)], .int .i64 k] w fun e w' => e = .returned (.int .i64 (bt y k)) ∧ Below w.heap.size w w' := fun w => by
        have := bit_c y k w
        rwa [bitv_nat y k hlt] at this
      have w1 : IntKind.i64.wrap (bt x k + bt y k) = bt x k + bt y k := by rw [IntKind.wrap_i64]; omega
      have w2 : IntKind.i64.wrap (bt x k + bt y k + cy x y k) = bt x k + bt y k + cy x y k := by rw [IntKind.wrap_i64]; omega
      have w3 : 0 ≤ bt x k + bt y k + cy x y k := by omega
      have k10 := fun d os => (c1.regrown d os).c0
      have k11 := fun d os => (c1.regrown d os).c1
      have k12 := fun d os => (c1.regrown d os).c2
      have k13 := fun d os => (c1.regrown d os).c3
      have k20 := fun d os => (c2.regrown d os).c0
      have k21 := fun d os => (c2.regrown d os).c1
      have k22 := fun d os => (c2.regrown d os).c2
      have k23 := fun d os => (c2.regrown d os).c3
      have q1 := quiet_call wr kx
      have q2 := quiet_call wr ky
      go_upto_region 6 with (fail)
      refine wp_region_quiet_below (by kernel_rfl) (by kernel_rfl) ?_
      repeat (go_big_quiet_step ((first | with_reducible exact q1 _ _ | with_reducible exact q2 _ _)))
      refine wpQuiet_nil ?_
      intro W1 hw'
      have hown1 : W1.ownsRow W0.heap.size 3 1 u6 k ((rowB (x + y) k).map (Value.int .i64)) := by obtain ⟨p, rfl⟩ := hw'; exact ownsRow_below hown (below_regrown _ _ _)
      have hB1 : Below W0.heap.size W0 W1 := by obtain ⟨p, rfl⟩ := hw'; exact bel_call hB (below_regrown wr _ _)
      clear hw' k10 k11 k12 k13 k20 k21 k22 k23 q1 q2 kx ky c1 c2 hB hown
      clear wr
      go_wp2_with (first
        | (at_builtin; refine wpList_append_own _ rfl _ _ 58 rfl W0.heap.size 3 i0 (.int .i64 0) 1 8 Try.underlying58 hi hz0 hz1 hz2 rfl (by decide) _ _ _ rfl (hown1.alloc _) ⟨W1.heap.size, 0, none⟩ 1 1 [.int .i64 (bt (x + y) k)] rfl rfl ?c1 ?c2 ?c3 ?c4 ?c5 ?_))
      case c1 =>
        intro j u hj
        match j, hj with
        | 0, hj => simp at hj; subst hj; simp [Addr.add]
      case c2 => intro u hu; simp at hu; subst hu; rfl
      case c3 => unfold maxLen; omega
      case c4 => omega
      case c5 => have := hB1.size; simp; omega
      intro v' w1 hown' hgrow _
      have hB2 := row_below hown1 hB1 hgrow
      rw [show (rowB (x + y) k).map (Value.int .i64) ++ [.int .i64 (bt (x + y) k)] = (rowB (x + y) (k + 1)).map (Value.int .i64) by rw [rowB_succ, List.map_append]; rfl] at hown'
      clear hgrow hown1 hB1
      go_wp2
      go_roundw
      case rel => exact ⟨k + 1, by omega, by go_num, by rw [s2], hown', hB2⟩
      case measure => simp [intOf]; omega
    · have hk : k = 256 := by omega
      subst hk
      have c3 := cz.call hB
      have hl : (rowB (x + y) 256).length = 256 := rowB_length _ _
      have hfr := from_row W0.heap.size u6 (rowB (x + y) 256) (Or.inl hl) (rowB_bits _ _) wr (by rw [hl]; exact hown)
      rw [List.take_of_length_le (by omega), ofBits_m, big_m] at hfr
      unfold big at hfr
      go_wp2_with (go_at_call 49; with_reducible refine hfr.mono ?_; rintro e w1 ⟨rfl, hb1⟩; obtain ⟨f0, f1, f2, f3, f4, f5, f6, f7⟩ := id (c3.call hb1))
      exact bodyPost_ret (v := .tuple #[.agg #[.int .u64 (L0 (x + y)), .int .u64 (L1 (x + y)), .int .u64 (L2 (x + y)), .int .u64 (L3 (x + y))], .bool (cy x y 256 == 1)]) (by simp [results, Try.results25, go_sem, f0, f1, f2, f3]) rfl ⟨rfl, below_put4 (bel_call (hB0.trans (hB.mono hsz0)) hb1) (by omega) _⟩
end Go.Proofs.Ytefnlmiephombaa
