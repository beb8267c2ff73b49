/- Rows of bytes; slices.Clone; the law's copied and same; what sizes may be. -/
import Derived.Test.YtoeooabaofpngaaProg
import Derived.WalkKit
import Derived.WalkSpells
import Derived.WalkLawsBesides
import Derived.Outline
import Derived.Lib.Hide
import Derived.Lib.SliceRun
import Derived.Sort.Grow
import Derived.Below
import Derived.Deep.Cut
import Derived.Deep.RegionHeld3
import Derived.Deep.QuietTactic
import Derived.BigQuiet
import Derived.Laws.OwnMore
namespace Go.Proofs.Ytoeooabaofpngaa
open Go.RowKit Go.Sort

theorem bel_alloc {a w : World} (h : Below a.heap.size a w) (o : Obj) : Below a.heap.size a (w.alloc o) := h.alloc h.size o
theorem bel_call {a w w' : World} (h : Below a.heap.size a w) (k : Below w.heap.size w w') : Below a.heap.size a w' := h.trans (k.mono h.size)
theorem wp_gen {P : Program} {c : Code} {Q : Exit → Act → World → Prop} {a : Act} {W0 : World} (Φ : World → Prop) (h0 : Φ W0) (h : ∀ W, Φ W → c.wp P Q a W) : c.wp P Q a W0 := h W0 h0
theorem Try.info5 : (Try.prog.info? 5).map (fun i => (i.zero, i.size, i.bytes)) = some (some (.int .u8 0), 1, 1) := by kernel_rfl

/-- bytes as cells -/
def u8s (xs : List Int) : List Value := xs.map (Value.int .u8)
/-- a row of bytes of one's own, from block B on -/
def RowO (w : World) (B : Nat) (v : Value) (xs : List Int) : Prop := w.ownsRow B 5 1 v xs.length (u8s xs)
/-- a slice of bytes that may be read -/
def RdB (w : World) (v : Value) (xs : List Int) : Prop :=
  (v = .slice none 0 0 ∧ xs = []) ∨ ∃ a g o cap, v = .slice (some a) xs.length cap ∧ xs.length ≤ cap ∧ (0 < xs.length → a = ⟨g, o, none⟩) ∧ ∀ j, j < xs.length → w.cell? ⟨g, o + j, none⟩ = some (.int .u8 (xs[j]?.getD 0))
theorem u8s_one (xs : List Int) : ∀ u ∈ u8s xs, u.oneCell' = true := by
  intro u hu
  obtain ⟨x, _, rfl⟩ := List.mem_map.1 hu
  rfl
theorem rd_cell {w : World} {a : Addr} {g o : Nat} {xs : List Int} (ha : 0 < xs.length → a = ⟨g, o, none⟩) (h : ∀ j, j < xs.length → w.cell? ⟨g, o + j, none⟩ = some (.int .u8 (xs[j]?.getD 0))) (n : Nat) : ∀ j u, (u8s (xs.take n))[j]? = some u → w.cell? (a.add j) = some u := by
  intro j u hu
  have hj : j < (xs.take n).length := by
    by_cases hlt : j < (xs.take n).length
    · exact hlt
    · rw [List.getElem?_eq_none (by simp [u8s] at hlt ⊢; omega)] at hu; cases hu
  have hj2 : j < xs.length := by rw [List.length_take] at hj; omega
  rw [ha (by omega), Addr.add_lit, h j hj2]
  simp only [u8s, List.getElem?_map] at hu
  rw [List.getElem?_take, if_pos (by rw [List.length_take] at hj; omega), List.getElem?_eq_getElem hj2] at hu
  rw [List.getElem?_eq_getElem hj2]
  simpa using hu
theorem RdB.keep {w w' : World} {v : Value} {xs : List Int} (h : RdB w v xs) (hb : Below w.heap.size w w') : RdB w' v xs := by
  rcases h with h | ⟨a, g, o, cap, h1, h2, h3, h4⟩
  · exact .inl h
  · exact .inr ⟨a, g, o, cap, h1, h2, h3, fun j hj => by rw [hb.cell (block_lt_of_cell (h4 j hj))]; exact h4 j hj⟩

theorem wpList_append_none {P : Program} {w : World} {ops : Array Oper} {rest : List Oper} {o : Oper} {a : Act} {Q : Exit → Act → World → Prop} (hgd : o.guard = none) (s x : Operand) (t : TypeId)
    (ho : o.op = .call { callee := .builtin .append, args := #[s, x], argTypes := #[t, t] })
    (base : Nat) (e : TypeId) (i : TypeInfo) (size : Nat) (ht : P.underlying t = some (.slice e)) (hi : P.info? e = some i)
    (v : Value) (n : Nat) (xs : List Value) (hs : a.eval s = v) (hown : w.ownsRow base e size v n xs) (hx : a.eval x = .slice none 0 0)
    (h : wpList P ops Q rest (a.put o.dst v) w) : wpList P ops Q (o :: rest) a w :=
  wpList_plain hgd fun _ hK => by
    have hr := run_append_owned_none (w := w) (P := P) base t o.type e i size ht hi v n xs hown
    unfold Oper.wp execOp
    simp only [ho, resolve, invoke, builtin, Sem.run_bind, Sem.run_pure, Result.andThen_ok, List.map_toArray, List.map_cons, List.map_nil, hs, hx, hr]
    exact hK _ _ h
theorem ownsRow_alloc {w : World} {B : Nat} {e : TypeId} {size n : Nat} {v : Value} {xs : List Value} (h : w.ownsRow B e size v n xs) (x : Obj) : (w.alloc x).ownsRow B e size v n xs := by
  obtain ⟨h1, h2⟩ := h
  refine ⟨h1, ?_⟩
  rcases h2 with h2 | ⟨g, cap, cur, e1, e2, e3, e4⟩
  · exact .inl h2
  · have hg : g < w.heap.size := by
      by_cases hlt : g < w.heap.size
      · exact hlt
      · rw [Array.getElem?_eq_none (by omega)] at e3; cases e3
    exact .inr ⟨g, cap, cur, e1, e2, by rw [Below.heap_alloc _ _ _ (by omega)]; exact e3, e4⟩
theorem ownsRow_keep {w w' : World} {B : Nat} {e : TypeId} {size n : Nat} {v : Value} {xs : List Value} (h : w.ownsRow B e size v n xs) (hb : Below w.heap.size w w') : w'.ownsRow B e size v n xs := by
  obtain ⟨h1, h2⟩ := h
  refine ⟨h1, ?_⟩
  rcases h2 with h2 | ⟨g, cap, cur, e1, e2, e3, e4⟩
  · exact .inl h2
  · have hg : g < w.heap.size := by
      by_cases hlt : g < w.heap.size
      · exact hlt
      · rw [Array.getElem?_eq_none (by omega)] at e3; cases e3
    exact .inr ⟨g, cap, cur, e1, e2, by rw [hb.block g hg]; exact e3, e4⟩
theorem RowO.keep {w w' : World} {B : Nat} {v : Value} {xs : List Int} (h : RowO w B v xs) (hb : Below w.heap.size w w') : RowO w' B v xs := ownsRow_keep h hb
theorem grown_below {B k : Nat} {W0 wr w1 : World} {v : Value} {xs : List Value} (hown : wr.ownsRow B 5 1 v k xs) (hB : Below B W0 wr) (hBs : B ≤ wr.heap.size) (hgrow : wr.grownBy w1 v.ownBlock) : Below B W0 w1 :=
  hB.grown hgrow hBs fun j hj => (hown.lt j hj).1

set_option maxRecDepth 100000 in
theorem clone_c (v : Value) (xs : List Int) (w : World) (h : RdB w v xs) (hl : xs.length ≤ 1000000000) :
    Calls Try.prog 30 #[v] w fun e w' => ∃ v', e = .returned v' ∧ RowO w' w.heap.size v' xs ∧ Below w.heap.size w w' := by
  obtain ⟨i0, hi, hz0, hz1, hz2⟩ := info_parts Try.info5
  have qT : ∀ (w : World) (a : Option Addr) (n c n' c' : Nat), (binOp .eql 22 (.slice a n c) (.slice none n' c')).run Try.prog w = .ok (.bool a.isNone) w := fun w a n c n' c' => Lib.run_eql_slice_nil w 22 5 a n c n' c' Try.underlying22
  rcases h with ⟨rfl, rfl⟩ | ⟨a, g, o, cap, rfl, hc, ha, hcell⟩
  · go_enter Try.func30, Try.ntmps30
    go_wp2
    go_ret
    exact ⟨_, rfl, World.ownsRow_nil _ _ _ _, Below.refl _ _⟩
  · have hown0 : (w.alloc (.cells #[] 5)).ownsRow w.heap.size 5 1 (.slice (some ⟨w.heap.size, 0, none⟩) 0 0) 0 [] := ⟨rfl, .inr ⟨_, 0, #[], rfl, Nat.le_refl _, heap_alloc_new _ _, Nat.le_refl _, by unfold maxLen; omega, rfl, rfl⟩⟩
    have hnew := rd_cell (w := w.alloc (.cells #[] 5)) (xs := xs) ha (fun j hj => by rw [(bel_alloc (Below.refl _ w) _).cell (block_lt_of_cell (hcell j hj))]; exact hcell j hj) xs.length
    rw [List.take_length] at hnew
    have HN := Lib.hid hnew
    clear hnew hcell ha
    go_enter Try.func30, Try.ntmps30
    go_wp2_with (at_builtin; refine wpList_append_own _ rfl _ _ 22 rfl w.heap.size 5 i0 (.int .u8 0) 1 1 Try.underlying22 hi hz0 hz1 hz2 rfl (by decide) _ _ _ rfl hown0 a xs.length cap (u8s xs) rfl (by simp [u8s]) HN.out (u8s_one xs) ?c3 ?c4 ?c5 ?_)
    case c3 => unfold maxLen; omega
    case c4 => omega
    try case c5 => simp
    intro v' w1 hown' hgrow hnn
    have hb0 := grown_below hown0 (bel_alloc (Below.refl _ w) _) (by simp) hgrow
    clear hgrow hown0 hnn
    go_wp2
    go_ret
    exact ⟨_, rfl, hown', hb0⟩

set_option maxRecDepth 100000 in
theorem copied_c (v : Value) (xs : List Int) (w : World) (h : RdB w v xs) (hl : xs.length ≤ 1000000000) :
    Calls Try.prog 12 #[v] w fun e w' => ∃ v', e = .returned v' ∧ RowO w' w.heap.size v' xs ∧ Below w.heap.size w w' := by
  obtain ⟨i0, hi, hz0, hz1, hz2⟩ := info_parts Try.info5
  rcases h with ⟨rfl, rfl⟩ | ⟨a, g, o, cap, rfl, hc, ha, hcell⟩
  · have hown0 : (w.alloc (.cells #[] 5)).ownsRow w.heap.size 5 1 (.slice (some ⟨w.heap.size, 0, none⟩) 0 0) 0 [] := ⟨rfl, .inr ⟨_, 0, #[], rfl, Nat.le_refl _, heap_alloc_new _ _, Nat.le_refl _, by unfold maxLen; omega, rfl, rfl⟩⟩
    go_enter Try.func12, Try.ntmps12
    go_wp2
    go_ret
    exact ⟨_, rfl, hown0, bel_alloc (Below.refl _ w) _⟩
  · have hown0 : (w.alloc (.cells #[] 5)).ownsRow w.heap.size 5 1 (.slice (some ⟨w.heap.size, 0, none⟩) 0 0) 0 [] := ⟨rfl, .inr ⟨_, 0, #[], rfl, Nat.le_refl _, heap_alloc_new _ _, Nat.le_refl _, by unfold maxLen; omega, rfl, rfl⟩⟩
    have hnew := rd_cell (w := w.alloc (.cells #[] 5)) (xs := xs) ha (fun j hj => by rw [(bel_alloc (Below.refl _ w) _).cell (block_lt_of_cell (hcell j hj))]; exact hcell j hj) xs.length
    rw [List.take_length] at hnew
    have HN := Lib.hid hnew
    clear hnew hcell ha
    go_enter Try.func12, Try.ntmps12
    go_wp2_with (at_builtin; refine wpList_append_own _ rfl _ _ 22 rfl w.heap.size 5 i0 (.int .u8 0) 1 1 Try.underlying22 hi hz0 hz1 hz2 rfl (by decide) _ _ _ rfl hown0 a xs.length cap (u8s xs) rfl (by simp [u8s]) HN.out (u8s_one xs) ?c3 ?c4 ?c5 ?_)
    case c3 => unfold maxLen; omega
    case c4 => omega
    try case c5 => simp
    intro v' w1 hown' hgrow hnn
    have hb0 := grown_below hown0 (bel_alloc (Below.refl _ w) _) (by simp) hgrow
    clear hgrow hown0 hnn
    go_wp2
    go_ret
    exact ⟨_, rfl, hown', hb0⟩


theorem okz_or (s : Int) : (s = 1 ∨ s = 2 ∨ s = 4 ∨ s = 8) ∨ (s ≠ 1 ∧ s ≠ 2 ∧ s ≠ 4 ∧ s ≠ 8) := by omega
/-- may a number have that many bytes? -/
def okz (s : Int) : Bool := s == 1 || s == 2 || s == 4 || s == 8
theorem okz_iff (s : Int) : okz s = true ↔ (s = 1 ∨ s = 2 ∨ s = 4 ∨ s = 8) := by unfold okz; simp [or_assoc]
theorem right_c (s : Int) (w : World) : Calls Try.prog 31 #[.int .i64 s] w fun e w' => e = .returned (.bool (okz s)) ∧ w' = w := by
  unfold okz
  by_cases h1 : s = 1
  · subst h1; go_enter Try.func31, Try.ntmps31
    go_wp2
    go_ret
    exact ⟨rfl, rfl⟩
  by_cases h2 : s = 2
  · subst h2; go_enter Try.func31, Try.ntmps31
    go_wp2
    go_ret
    exact ⟨rfl, rfl⟩
  by_cases h4 : s = 4
  · subst h4; go_enter Try.func31, Try.ntmps31
    go_wp2
    go_ret
    exact ⟨rfl, rfl⟩
  by_cases h8 : s = 8
  · subst h8; go_enter Try.func31, Try.ntmps31
    go_wp2
    go_ret
    exact ⟨rfl, rfl⟩
  go_enter Try.func31, Try.ntmps31
  go_wp2
  go_ret
  exact ⟨by simp [h1, h2, h4, h8], rfl⟩
theorem size_c (s : Int) (w : World) : Calls Try.prog 32 #[.int .i64 s] w fun e w' => e = .returned (.bool (okz s)) ∧ w' = w := by
  unfold okz
  by_cases h1 : s = 1
  · subst h1; go_enter Try.func32, Try.ntmps32
    go_wp2
    go_ret
    exact ⟨rfl, rfl⟩
  by_cases h2 : s = 2
  · subst h2; go_enter Try.func32, Try.ntmps32
    go_wp2
    go_ret
    exact ⟨rfl, rfl⟩
  by_cases h4 : s = 4
  · subst h4; go_enter Try.func32, Try.ntmps32
    go_wp2
    go_ret
    exact ⟨rfl, rfl⟩
  by_cases h8 : s = 8
  · subst h8; go_enter Try.func32, Try.ntmps32
    go_wp2
    go_ret
    exact ⟨rfl, rfl⟩
  go_enter Try.func32, Try.ntmps32
  go_wp2
  go_ret
  exact ⟨by simp, rfl⟩

/-- what a row is when it is only read -/
theorem RowO.rd {w : World} {B : Nat} {v : Value} {xs : List Int} (h : RowO w B v xs) : RdB w v xs := by
  have h' : w.ownsRow B 5 1 v xs.length (u8s xs) := h
  obtain ⟨h1, h2⟩ := h
  rcases h2 with ⟨rfl, h2⟩ | ⟨g, cap, cur, rfl, e2, e3, e4, e5, e6, e7⟩
  · exact .inl ⟨rfl, List.length_eq_zero_iff.1 h2⟩
  · refine .inr ⟨_, g, 0, cap, rfl, e4, fun _ => rfl, fun j hj => ?_⟩
    rw [Nat.zero_add, h'.cellAt j (by omega)]
    simp [u8s, List.getElem?_eq_getElem hj]

theorem below_drewN (w : World) (n : Nat) : Below w.heap.size w (w.drewN n) := ⟨rfl, rfl, rfl, Nat.le_refl _, fun _ _ => rfl⟩

set_option maxRecDepth 100000 in
theorem same_c (v u : Value) (xs ys : List Int) (w : World) (hx : RdB w v xs) (hy : RdB w u ys) (hl : xs.length ≤ 1000000000) (hl2 : ys.length ≤ 1000000000) :
    Calls Try.prog 14 #[v, u] w fun e w' => e = .returned (.bool (decide (xs = ys))) ∧ Below w.heap.size w w' := by
  by_cases hlen : xs.length = ys.length
  case neg =>
    have hne : ¬ xs = ys := fun e => hlen (by rw [e])
    have hlen2 : ¬ (xs.length : Int) = ys.length := by omega
    rw [decide_eq_false hne]
    rcases hx with ⟨rfl, rfl⟩ | ⟨a, g, o, cap, rfl, hc, ha, hcell⟩ <;> rcases hy with ⟨rfl, rfl⟩ | ⟨a', g', o', cap', rfl, hc', ha', hcell'⟩
    · exact absurd rfl hlen
    · have hl3 : ¬ (0 : Int) = ys.length := by simpa using hlen2
      go_enter Try.func14, Try.ntmps14
      go_wp2
      go_ret
      exact ⟨rfl, Below.refl _ _⟩
    · have hl3 : ¬ (xs.length : Int) = 0 := by simpa using hlen2
      go_enter Try.func14, Try.ntmps14
      go_wp2
      go_ret
      exact ⟨rfl, Below.refl _ _⟩
    · go_enter Try.func14, Try.ntmps14
      go_wp2
      go_ret
      exact ⟨rfl, Below.refl _ _⟩
  have hlen2 : (xs.length : Int) = ys.length := by omega
  rcases hx with ⟨rfl, rfl⟩ | ⟨a, g, o, cap, rfl, hc, ha, hcell⟩
  · have : ys = [] := List.length_eq_zero_iff.1 hlen.symm
    subst this
    rcases hy with ⟨rfl, -⟩ | ⟨a', g', o', cap', rfl, hc', -, -⟩
    all_goals
      go_enter Try.func14, Try.ntmps14
      go_wp2
      go_loopw [5] (fun i wr => i = .int .i64 0 ∧ wr = w) (fun _ _ => 0)
      case atStart => exact ⟨rfl, rfl⟩
      case round =>
        obtain ⟨rfl, rfl⟩ := hrel
        go_wp2
        go_ret
        exact ⟨by simp, Below.refl _ _⟩
  rcases hy with ⟨rfl, rfl⟩ | ⟨a', g', o', cap', rfl, hc', ha', hcell'⟩
  · have : xs = [] := List.length_eq_zero_iff.1 hlen
    subst this
    go_enter Try.func14, Try.ntmps14
    go_wp2
    go_loopw [5] (fun i wr => i = .int .i64 0 ∧ wr = w) (fun _ _ => 0)
    case atStart => exact ⟨rfl, rfl⟩
    case round =>
      obtain ⟨rfl, rfl⟩ := hrel
      go_wp2
      go_ret
      exact ⟨by simp, Below.refl _ _⟩
  by_cases h0 : 0 < xs.length
  case neg =>
    have e1 : xs = [] := List.length_eq_zero_iff.1 (by omega)
    have e2 : ys = [] := List.length_eq_zero_iff.1 (by omega)
    subst e1; subst e2
    go_enter Try.func14, Try.ntmps14
    go_wp2
    go_loopw [5] (fun i wr => i = .int .i64 0 ∧ wr = w) (fun _ _ => 0)
    case atStart => exact ⟨rfl, rfl⟩
    case round =>
      obtain ⟨rfl, rfl⟩ := hrel
      go_wp2
      go_ret
      exact ⟨by simp, Below.refl _ _⟩
  obtain rfl := ha h0
  obtain rfl := ha' (by omega)
  clear ha ha'
  have HC := Lib.hid hcell; have HC' := Lib.hid hcell'
  clear hcell hcell'
  go_enter Try.func14, Try.ntmps14
  go_wp2
  go_loopw [5] (fun i wr => ∃ k : Nat, k ≤ xs.length ∧ i = .int .i64 k ∧ Below w.heap.size w wr ∧ xs.take k = ys.take k) (fun i _ => xs.length - (intOf i).toNat)
  case atStart => exact ⟨0, by omega, rfl, Below.refl _ _, by simp⟩
  case round =>
    obtain ⟨k, hk, rfl, hb, heq⟩ := hrel
    by_cases hlt : k < xs.length
    · have c1 := HC.out k hlt
      rw [← hb.cell (block_lt_of_cell c1)] at c1
      have c2 := HC'.out k (by omega)
      rw [← hb.cell (block_lt_of_cell c2)] at c2
      have hlt' : k < ys.length := by omega
      rw [List.getElem?_eq_getElem hlt, Option.getD_some] at c1
      rw [List.getElem?_eq_getElem hlt', Option.getD_some] at c2
      have hx1 := List.take_succ_eq_append_getElem hlt
      have hy1 := List.take_succ_eq_append_getElem hlt'
      generalize xs[k] = p at *
      generalize ys[k] = q at *
      by_cases hpq : p = q
      · subst hpq
        have HX := Lib.hid hx1; have HY := Lib.hid hy1; have HE := Lib.hid heq
        clear hx1 hy1 heq
        go_wp2_with fail
        go_quiet (fail)
        go_wp2_with fail
        go_roundw
        case rel => exact ⟨k + 1, by omega, by go_num, bel_call hb (below_drewN wr nq), by rw [HX.out, HY.out, HE.out]⟩
        case measure => simp [intOf]; omega
      · have hne : ¬ xs = ys := fun e => by
          rw [e] at hx1
          rw [hx1] at hy1
          have := List.append_inj_right' hy1 rfl
          simp at this; exact hpq this
        have HX := Lib.hid hx1; have HY := Lib.hid hy1; have HE := Lib.hid heq
        clear hx1 hy1 heq
        have hd := decide_eq_false hne
        go_wp2_with fail
        go_quiet (fail)
        go_wp2_with fail
        go_ret
        exact ⟨by rw [hd]; rfl, bel_call hb (below_drewN wr nq)⟩
    · have hk : k = xs.length := by omega
      subst hk
      rw [List.take_length, hlen, List.take_length] at heq
      subst heq
      go_wp2
      go_ret
      exact ⟨by simp, hb⟩
end Go.Proofs.Ytoeooabaofpngaa
