/- Rows of bytes; bytes.Clone; the methods of a write and of a cut. -/
import Derived.Test.YtfohemgfiidokaaProg
import Derived.WalkKit
import Derived.WalkSpells
import Derived.WalkLawsBesides
import Derived.Outline
import Derived.Lib.Hide
import Derived.Lib.SliceRun
import Derived.Sort.Grow
import Derived.Below
import Derived.Deep.Cut
namespace Go.Proofs.Ytfohemgfiidokaa
open Go.RowKit Go.Sort

theorem bel_alloc {a w : World} (h : Below a.heap.size a w) (o : Obj) : Below a.heap.size a (w.alloc o) := h.alloc h.size o
theorem bel_call {a w w' : World} (h : Below a.heap.size a w) (k : Below w.heap.size w w') : Below a.heap.size a w' := h.trans (k.mono h.size)
theorem wp_gen {P : Program} {c : Code} {Q : Exit → Act → World → Prop} {a : Act} {W0 : World} (Φ : World → Prop) (h0 : Φ W0) (h : ∀ W, Φ W → c.wp P Q a W) : c.wp P Q a W0 := h W0 h0
theorem Try.info5 : (Try.prog.info? 5).map (fun i => (i.zero, i.size, i.bytes)) = some (some (.int .u8 0), 1, 1) := by kernel_rfl

/-- bytes as cells -/
def u8s (xs : List Int) : List Value := xs.map (Value.int .u8)
/-- a row of bytes of one's own, from block B on -/
def RowO (w : World) (B : Nat) (v : Value) (xs : List Int) : Prop := w.ownsRow B 5 1 v xs.length (u8s xs)
/-- a slice of bytes that may be read -/
def RdB (w : World) (v : Value) (xs : List Int) : Prop :=
  (v = .slice none 0 0 ∧ xs = []) ∨ ∃ a g o cap, v = .slice (some a) xs.length cap ∧ xs.length ≤ cap ∧ (0 < xs.length → a = ⟨g, o, none⟩) ∧ ∀ j, j < xs.length → w.cell? ⟨g, o + j, none⟩ = some (.int .u8 (xs[j]?.getD 0))
theorem u8s_one (xs : List Int) : ∀ u ∈ u8s xs, u.oneCell' = true := by
  intro u hu
  obtain ⟨x, _, rfl⟩ := List.mem_map.1 hu
  rfl
theorem rd_cell {w : World} {a : Addr} {g o : Nat} {xs : List Int} (ha : 0 < xs.length → a = ⟨g, o, none⟩) (h : ∀ j, j < xs.length → w.cell? ⟨g, o + j, none⟩ = some (.int .u8 (xs[j]?.getD 0))) (n : Nat) : ∀ j u, (u8s (xs.take n))[j]? = some u → w.cell? (a.add j) = some u := by
  intro j u hu
  have hj : j < (xs.take n).length := by
    by_cases hlt : j < (xs.take n).length
    · exact hlt
    · rw [List.getElem?_eq_none (by simp [u8s] at hlt ⊢; omega)] at hu; cases hu
  have hj2 : j < xs.length := by rw [List.length_take] at hj; omega
  rw [ha (by omega), Addr.add_lit, h j hj2]
  simp only [u8s, List.getElem?_map] at hu
  rw [List.getElem?_take, if_pos (by rw [List.length_take] at hj; omega), List.getElem?_eq_getElem hj2] at hu
  rw [List.getElem?_eq_getElem hj2]
  simpa using hu
theorem RdB.keep {w w' : World} {v : Value} {xs : List Int} (h : RdB w v xs) (hb : Below w.heap.size w w') : RdB w' v xs := by
  rcases h with h | ⟨a, g, o, cap, h1, h2, h3, h4⟩
  · exact .inl h
  · exact .inr ⟨a, g, o, cap, h1, h2, h3, fun j hj => by rw [hb.cell (block_lt_of_cell (h4 j hj))]; exact h4 j hj⟩

theorem wpList_append_none {P : Program} {w : World} {ops : Array Oper} {rest : List Oper} {o : Oper} {a : Act} {Q : Exit → Act → World → Prop} (hgd : o.guard = none) (s x : Operand) (t : TypeId)
    (ho : o.op = .call { callee := .builtin .append, args := #[s, x], argTypes := #[t, t] })
    (base : Nat) (e : TypeId) (i : TypeInfo) (size : Nat) (ht : P.underlying t = some (.slice e)) (hi : P.info? e = some i)
    (v : Value) (n : Nat) (xs : List Value) (hs : a.eval s = v) (hown : w.ownsRow base e size v n xs) (hx : a.eval x = .slice none 0 0)
    (h : wpList P ops Q rest (a.put o.dst v) w) : wpList P ops Q (o :: rest) a w :=
  wpList_plain hgd fun _ hK => by
    have hr := run_append_owned_none (w := w) (P := P) base t o.type e i size ht hi v n xs hown
    unfold Oper.wp execOp
    simp only [ho, resolve, invoke, builtin, Sem.run_bind, Sem.run_pure, Result.andThen_ok, List.map_toArray, List.map_cons, List.map_nil, hs, hx, hr]
    exact hK _ _ h
theorem ownsRow_alloc {w : World} {B : Nat} {e : TypeId} {size n : Nat} {v : Value} {xs : List Value} (h : w.ownsRow B e size v n xs) (x : Obj) : (w.alloc x).ownsRow B e size v n xs := by
  obtain ⟨h1, h2⟩ := h
  refine ⟨h1, ?_⟩
  rcases h2 with h2 | ⟨g, cap, cur, e1, e2, e3, e4⟩
  · exact .inl h2
  · have hg : g < w.heap.size := by
      by_cases hlt : g < w.heap.size
      · exact hlt
      · rw [Array.getElem?_eq_none (by omega)] at e3; cases e3
    exact .inr ⟨g, cap, cur, e1, e2, by rw [Below.heap_alloc _ _ _ (by omega)]; exact e3, e4⟩
theorem ownsRow_keep {w w' : World} {B : Nat} {e : TypeId} {size n : Nat} {v : Value} {xs : List Value} (h : w.ownsRow B e size v n xs) (hb : Below w.heap.size w w') : w'.ownsRow B e size v n xs := by
  obtain ⟨h1, h2⟩ := h
  refine ⟨h1, ?_⟩
  rcases h2 with h2 | ⟨g, cap, cur, e1, e2, e3, e4⟩
  · exact .inl h2
  · have hg : g < w.heap.size := by
      by_cases hlt : g < w.heap.size
      · exact hlt
      · rw [Array.getElem?_eq_none (by omega)] at e3; cases e3
    exact .inr ⟨g, cap, cur, e1, e2, by rw [hb.block g hg]; exact e3, e4⟩
theorem RowO.keep {w w' : World} {B : Nat} {v : Value} {xs : List Int} (h : RowO w B v xs) (hb : Below w.heap.size w w') : RowO w' B v xs := ownsRow_keep h hb
theorem grown_below {B k : Nat} {W0 wr w1 : World} {v : Value} {xs : List Value} (hown : wr.ownsRow B 5 1 v k xs) (hB : Below B W0 wr) (hBs : B ≤ wr.heap.size) (hgrow : wr.grownBy w1 v.ownBlock) : Below B W0 w1 :=
  hB.grown hgrow hBs fun j hj => (hown.lt j hj).1

set_option maxRecDepth 100000 in
theorem clone_c (v : Value) (xs : List Int) (w : World) (h : RdB w v xs) (hl : xs.length ≤ 1000000000) :
    Calls Try.prog 38 #[v] w fun e w' => ∃ v', e = .returned v' ∧ RowO w' w.heap.size v' xs ∧ Below w.heap.size w w' := by
  obtain ⟨i0, hi, hz0, hz1, hz2⟩ := info_parts Try.info5
  have qT : ∀ (w : World) (a : Option Addr) (n c n' c' : Nat), (binOp .eql 33 (.slice a n c) (.slice none n' c')).run Try.prog w = .ok (.bool a.isNone) w := fun w a n c n' c' => Lib.run_eql_slice_nil w 33 5 a n c n' c' Try.underlying33
  rcases h with ⟨rfl, rfl⟩ | ⟨a, g, o, cap, rfl, hc, ha, hcell⟩
  · go_enter Try.func38, Try.ntmps38
    go_wp2
    go_ret
    exact ⟨_, rfl, World.ownsRow_nil _ _ _ _, Below.refl _ _⟩
  · have hown0 : (w.alloc (.cells #[] 5)).ownsRow w.heap.size 5 1 (.slice (some ⟨w.heap.size, 0, none⟩) 0 0) 0 [] := ⟨rfl, .inr ⟨_, 0, #[], rfl, Nat.le_refl _, heap_alloc_new _ _, Nat.le_refl _, by unfold maxLen; omega, rfl, rfl⟩⟩
    have hnew := rd_cell (w := w.alloc (.cells #[] 5)) (xs := xs) ha (fun j hj => by rw [(bel_alloc (Below.refl _ w) _).cell (block_lt_of_cell (hcell j hj))]; exact hcell j hj) xs.length
    rw [List.take_length] at hnew
    have HN := Lib.hid hnew
    clear hnew hcell ha
    go_enter Try.func38, Try.ntmps38
    go_wp2_with (at_builtin; refine wpList_append_own _ rfl _ _ 33 rfl w.heap.size 5 i0 (.int .u8 0) 1 1 Try.underlying33 hi hz0 hz1 hz2 rfl (by decide) _ _ _ rfl hown0 a xs.length cap (u8s xs) rfl (by simp [u8s]) HN.out (u8s_one xs) ?c3 ?c4 ?c5 ?_)
    case c3 => unfold maxLen; omega
    case c4 => omega
    try case c5 => simp
    intro v' w1 hown' hgrow hnn
    have hb0 := grown_below hown0 (bel_alloc (Below.refl _ w) _) (by simp) hgrow
    clear hgrow hown0 hnn
    go_wp2
    go_ret
    exact ⟨_, rfl, hown', hb0⟩

set_option maxRecDepth 100000 in
theorem wunits_c (cv : Value) (c : List Int) (w0 w : World) (h : RdB w0 cv c) :
    Calls Try.prog 61 #[.agg #[cv]] w fun e w' => e = .returned (.int .i64 c.length) ∧ Below w.heap.size w w' := by
  rcases h with ⟨rfl, rfl⟩ | ⟨a, g, o, cap, rfl, hc, ha, hcell⟩
  · go_enter Try.func61, Try.ntmps61
    go_wp2
    go_ret
    exact ⟨rfl, bel_alloc (Below.refl _ _) _⟩
  · clear ha hcell
    go_enter Try.func61, Try.ntmps61
    go_wp2
    go_ret
    exact ⟨rfl, bel_alloc (Below.refl _ _) _⟩
theorem cunits_c (n : Int) (w : World) :
    Calls Try.prog 63 #[.agg #[.int .i64 n]] w fun e w' => e = .returned (.int .i64 1) ∧ Below w.heap.size w w' := by
  go_enter Try.func63, Try.ntmps63
  go_wp2
  go_ret
  exact ⟨rfl, bel_alloc (Below.refl _ _) _⟩

set_option maxRecDepth 100000 in
theorem wdone_c (cv bv : Value) (c b : List Int) (B : Nat) (n : Int) (w : World) (h : RdB w cv c) (hb : RowO w B bv b) (hB : B ≤ w.heap.size) (hn : 0 ≤ n) (hl : b.length + c.length ≤ 1000000000) :
    Calls Try.prog 60 #[.agg #[cv], bv, .int .i64 n] w fun e w' => ∃ v', e = .returned v' ∧ RowO w' B v' (b ++ c.take n.toNat) ∧ Below B w w' := by
  obtain ⟨i0, hi, hz0, hz1, hz2⟩ := info_parts Try.info5
  have hb' : w.ownsRow B 5 1 bv b.length (u8s b) := hb
  rcases h with ⟨rfl, rfl⟩ | ⟨a, g, o, cap, rfl, hc, ha, hcell⟩
  · have hmin : (if (0 : Int) < n then 0 else n) = 0 := by split <;> omega
    go_enter Try.func60, Try.ntmps60
    go_wp2_with (at_builtin; go_loud (refine wpList_append_none rfl _ _ 33 rfl B 5 i0 1 Try.underlying33 hi _ _ _ rfl (ownsRow_alloc hb' _) rfl ?_))
    go_ret
    exact ⟨_, rfl, by (rw [List.take_nil, List.append_nil]; exact ownsRow_alloc hb _), Below.alloc (Below.refl _ _) hB _⟩
  · have hk : (if (c.length : Int) < n then (c.length : Int) else n) = ((c.take n.toNat).length : Nat) := by rw [List.length_take]; split <;> omega
    have hk1 : (c.take n.toNat).length ≤ c.length := by rw [List.length_take]; omega
    have hnew := rd_cell (w := w.alloc (.cells #[.slice (some a) c.length cap] 79)) (xs := c) ha (fun j hj => by rw [(bel_alloc (Below.refl _ w) _).cell (block_lt_of_cell (hcell j hj))]; exact hcell j hj) n.toNat
    generalize c.take n.toNat = d at hnew hk hk1
    have HN := Lib.hid hnew
    clear hnew hcell ha
    have hk2 : (0 : Int) ≤ d.length := by omega
    have hk3 : (d.length : Int) ≤ cap := by omega
    go_enter Try.func60, Try.ntmps60
    go_wp2_with (at_builtin; go_loud (refine wpList_append_own _ rfl _ _ 33 rfl B 5 i0 (.int .u8 0) 1 1 Try.underlying33 hi hz0 hz1 hz2 rfl (by decide) _ _ _ rfl (ownsRow_alloc hb' _) a d.length cap (u8s d) rfl (by simp [u8s]) HN.out (u8s_one d) ?c3 ?c4 ?c5 ?_))
    case c3 => unfold maxLen; omega
    case c4 => omega
    case c5 => simp; omega
    intro v' w1 hown' hgrow _
    have hb0 := grown_below (ownsRow_alloc hb' _) (Below.alloc (Below.refl B w) hB (.cells #[.slice (some a) c.length cap] 79)) (by simp; omega) hgrow
    clear hgrow
    rw [show u8s b ++ u8s d = u8s (b ++ d) by simp [u8s], show b.length + d.length = (b ++ d).length by simp] at hown'
    go_wp2
    go_ret
    exact ⟨_, rfl, hown', hb0⟩

set_option maxRecDepth 100000 in
theorem cdone_c (k n : Int) (bv : Value) (b : List Int) (B : Nat) (w : World) (hb : RowO w B bv b) (hB : B ≤ w.heap.size) (hn : 1 ≤ n) (hk : 0 ≤ k) :
    Calls Try.prog 62 #[.agg #[.int .i64 k], bv, .int .i64 n] w fun e w' => ∃ v', e = .returned v' ∧ RowO w' B v' (b.take k.toNat) ∧ Below B w w' := by
  have hn1 : ¬ n < 1 := by omega
  have hm : (if (b.length : Int) < k then (b.length : Int) else k) = ((b.take k.toNat).length : Nat) := by rw [List.length_take]; split <;> omega
  have hm1 : (b.take k.toNat).length ≤ b.length := by rw [List.length_take]; omega
  have hrow := hb
  obtain ⟨h1, h2⟩ := hrow
  rcases h2 with ⟨rfl, h2⟩ | ⟨g, cap, cur, rfl, e2, e3, e4, e5, e6, e7⟩
  · have hb0 : b = [] := List.length_eq_zero_iff.1 h2
    subst hb0
    have hm0 : (if (0 : Int) < k then 0 else k) = 0 := by split <;> omega
    clear hm hm1 h1 h2
    go_enter Try.func62, Try.ntmps62
    go_wp2
    go_ret
    exact ⟨_, rfl, World.ownsRow_nil _ _ _ _, Below.alloc (Below.refl _ _) hB _⟩
  · have hres : RowO (w.alloc (.cells #[.int .i64 k] 81)) B (.slice (some ⟨g, 0, none⟩) (b.take k.toNat).length cap) (b.take k.toNat) := by
      have hg : g < w.heap.size := by
        by_cases hlt : g < w.heap.size
        · exact hlt
        · rw [Array.getElem?_eq_none (by omega)] at e3; cases e3
      refine ⟨by simp [u8s], .inr ⟨g, cap, cur, rfl, e2, by rw [Below.heap_alloc _ _ _ (by omega)]; exact e3, by omega, e5, e6, ?_⟩⟩
      have := congrArg (List.take (b.take k.toNat).length) e7
      rw [List.take_take, Nat.min_eq_left (by omega)] at this
      rw [Nat.mul_one, this]
      unfold u8s
      rw [← List.map_take, List.length_take]
      congr 1
      rw [← List.take_take, List.take_length]
    generalize (b.take k.toNat).length = mm at hm hm1 hres
    have hm2 : (0 : Int) ≤ mm := by omega
    have hm3 : (mm : Int) ≤ cap := by omega
    have HR := Lib.hid hres
    clear hres h1 e3 e6 e7
    go_enter Try.func62, Try.ntmps62
    go_wp2
    go_ret
    exact ⟨_, rfl, HR.out, Below.alloc (Below.refl _ _) hB _⟩
end Go.Proofs.Ytfohemgfiidokaa
