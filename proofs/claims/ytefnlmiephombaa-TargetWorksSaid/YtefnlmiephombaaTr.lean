/- A slice of numbers: opened; its cells in a row; target.Sum of a row of the caller's own. -/
import Derived.Test.YtefnlmiephombaaTq
import Derived.Test.YtefnlmiephombaaFr
import Derived.Deep.Slices
namespace Go.Proofs.Ytefnlmiephombaa
open Go.RowKit Go.Sort Go.WideShapes Go.ChangeAt Go.ChangeShapes

theorem Try.info24 : (Try.prog.info? 24).map (fun i => (i.zero, i.size, i.bytes)) = some (some (.agg #[.int .u64 0, .int .u64 0, .int .u64 0, .int .u64 0]), 4, 32) := by kernel_rfl

/-- the cells of the first k numbers -/
def words (N : Nat → Int) : Nat → List Value
  | 0 => []
  | k + 1 => words N k ++ [.int .u64 (L0 (N k)), .int .u64 (L1 (N k)), .int .u64 (L2 (N k)), .int .u64 (L3 (N k))]
theorem words_length (N : Nat → Int) (k : Nat) : (words N k).length = k * 4 := by
  induction k with
  | zero => rfl
  | succ k ih => simp only [words, List.length_append, ih, List.length_cons, List.length_nil]; omega
theorem words_get (N : Nat → Int) (k i : Nat) (h : i < k) :
    (words N k)[i * 4]? = some (.int .u64 (L0 (N i))) ∧ (words N k)[i * 4 + 1]? = some (.int .u64 (L1 (N i))) ∧ (words N k)[i * 4 + 2]? = some (.int .u64 (L2 (N i))) ∧ (words N k)[i * 4 + 3]? = some (.int .u64 (L3 (N i))) := by
  induction k with
  | zero => omega
  | succ k ih =>
    have hl := words_length N k
    by_cases e : i < k
    · obtain ⟨a, b, c, d⟩ := ih e
      simp only [words]
      rw [List.getElem?_append_left (by omega), List.getElem?_append_left (by omega), List.getElem?_append_left (by omega), List.getElem?_append_left (by omega)]
      exact ⟨a, b, c, d⟩
    · have : i = k := by omega
      subst this
      simp only [words]
      rw [List.getElem?_append_right (by omega), List.getElem?_append_right (by omega), List.getElem?_append_right (by omega), List.getElem?_append_right (by omega), hl]
      simp [show i * 4 - i * 4 = 0 by omega, show i * 4 + 1 - i * 4 = 1 by omega, show i * 4 + 2 - i * 4 = 2 by omega, show i * 4 + 3 - i * 4 = 3 by omega]
theorem words_one (N : Nat → Int) (k : Nat) : ∀ u ∈ words N k, u.oneCell' = true := by
  induction k with
  | zero => intro u hu; simp [words] at hu
  | succ k ih =>
    intro u hu
    simp only [words, List.mem_append] at hu
    rcases hu with hu | hu
    · exact ih u hu
    · simp at hu; rcases hu with rfl | rfl | rfl | rfl <;> rfl
theorem words_cell {w : World} {g o len : Nat} {N : Nat → Int} (h : BigsAt w g o len N) (a : Addr) (ha : 0 < len → a = ⟨g, o, none⟩) : ∀ j u, (words N len)[j]? = some u → w.cell? (a.add j) = some u := by
  intro j u hu
  have hj : j < len * 4 := by
    by_cases hlt : j < len * 4
    · exact hlt
    · rw [List.getElem?_eq_none (by rw [words_length]; omega)] at hu; cases hu
  rw [ha (by omega), Addr.add_lit]
  obtain ⟨i, r, hr, hi, rfl⟩ : ∃ i r : Nat, r < 4 ∧ i < len ∧ j = i * 4 + r := ⟨j / 4, j % 4, by omega, by omega, by omega⟩
  obtain ⟨a0, a1, a2, a3⟩ := words_get N len i hi
  obtain ⟨b0, b1, b2, b3⟩ := h i hi
  rcases r with _ | _ | _ | _ | r
  · rw [Nat.add_zero] at hu ⊢; rw [a0] at hu; rw [b0]; exact hu
  · rw [a1] at hu; rw [← Nat.add_assoc, b1]; exact hu
  · rw [a2] at hu; rw [← Nat.add_assoc, b2]; exact hu
  · rw [a3] at hu; rw [← Nat.add_assoc, b3]; exact hu
  · omega

/-- 'Sum' of a row that the caller owns -/
theorem tsum_v (B len : Nat) (N : Nat → Int) (v : Value) (hl : len ≤ 1000) (w : World) (hown : w.ownsRow B 24 4 v len (words N len)) :
    Calls Try.prog 44 #[v] w fun e w' => e = .returned (.tuple #[big (sumN N len), .bool (sumO N len)]) ∧ Below w.heap.size w w' := by
  obtain ⟨h1, h2⟩ := hown
  rcases h2 with ⟨rfl, rfl⟩ | ⟨g, cap, cur, e1, e2, e3, e4, e5, e6, e7⟩
  · exact tsum_c none 0 0 0 0 N (by omega) (by omega) w (fun i hi => by omega)
  · rw [e1]
    refine tsum_c (some ⟨g, 0, none⟩) g 0 len cap N (fun _ => rfl) hl w fun i hi => ?_
    obtain ⟨a0, a1, a2, a3⟩ := words_get N len i hi
    have key : ∀ k u, k < len * 4 → (words N len)[k]? = some u → w.cell? ⟨g, 0 + k, none⟩ = some u := fun k u hk hu => by
      have h := congrArg (fun l : List Value => l[k]?) e7
      simp only [List.getElem?_take, hu] at h
      rw [if_pos hk] at h
      rw [Nat.zero_add]
      simp only [World.cell?, e3]
      simpa using h
    exact ⟨key _ _ (by omega) a0, by rw [Nat.add_assoc]; exact key _ _ (by omega) a1, by rw [Nat.add_assoc]; exact key _ _ (by omega) a2, by rw [Nat.add_assoc]; exact key _ _ (by omega) a3⟩

theorem row24_below {W0 wr w1 : World} {v : Value} {k : Nat} {xs : List Value} (hown : wr.ownsRow W0.heap.size 24 4 v k xs) (hB : Below W0.heap.size W0 wr) (hgrow : wr.grownBy w1 v.ownBlock) : Below W0.heap.size W0 w1 := by
  refine hB.grown hgrow hB.size fun j hj => (hown.lt j hj).1

/-- what a slice of numbers is in memory -/
def BigsOf (w : World) (p : Option Addr) (len cap : Nat) (N : Nat → Int) : Prop :=
  (p = none ∧ len = 0 ∧ cap = 0) ∨ ∃ a g o, p = some a ∧ (0 < len → a = ⟨g, o, none⟩) ∧ BigsAt w g o len N
theorem open_bigs {H : Type} {enc : TypeId × Value → H} {w : World} {base b2 : Nat} {spare : Nat → Bool} {held : Bool} {r} {v : Value} {d : DataW H} {ps : List MemPlace}
    (ho : Value.okWide Try.prog w r b2 54 v) (h : DataW.Trod enc Try.prog w base spare held 54 v d ps) : ∃ p len cap N, v = .slice p len cap ∧ BigsOf w p len cap N := by
  obtain ⟨p, len, cap, rfl⟩ := okWide_slice Try.underlying54 ho
  obtain ⟨fuel, hf⟩ := h
  have hf' : DataW.trod enc Try.prog w base spare held fuel 54 [.slice p len cap] = some (d, ps) := hf
  rcases Deep.open_slice Try.underlying54 hf' with ⟨hcs, -⟩ | ⟨a, l, c, mm, n, D, Pl, hcs, hb, hlc, hm, hmm, hx, hel⟩
  · injection hcs with h1
    injection h1 with h2 h3 h4
    exact ⟨p, len, cap, fun _ => 0, rfl, .inl ⟨h2, h3, h4⟩⟩
  · injection hcs with h1
    injection h1 with h2 h3 h4
    subst h2 h3 h4
    have hml : len ≤ mm := by rw [hmm]; split <;> omega
    have hc4 : Try.prog.cellsOf 24 = 4 := by kernel_rfl
    have key : ∀ i, i < len → ∃ x : Int, w.cell? (a.add (i * 4)) = some (.int .u64 (L0 x)) ∧ w.cell? ((a.add (i * 4)).add 1) = some (.int .u64 (L1 x)) ∧ w.cell? ((a.add (i * 4)).add 2) = some (.int .u64 (L2 x)) ∧ w.cell? ((a.add (i * 4)).add 3) = some (.int .u64 (L3 x)) := by
      intro i hi
      obtain ⟨cs', h5, h6⟩ := hel i (by omega)
      rw [hc4] at h5
      obtain ⟨-, hl4, hc⟩ := World.cells?_some h5
      obtain ⟨zs, hz, hzl, hw⟩ := open_intarr (n := 4) (cs := cs'.toArray) Try.underlying24 Try.underlying22 (by kernel_rfl) (by kernel_rfl) ⟨n, h6⟩
      match zs, hzl with
      | [z0, z1, z2, z3], _ =>
        have g0 := bounds_u64 (hw z0 (by simp))
        have g1 := bounds_u64 (hw z1 (by simp))
        have g2 := bounds_u64 (hw z2 (by simp))
        have g3 := bounds_u64 (hw z3 (by simp))
        obtain ⟨x, -, -, hx⟩ := big_of z0 z1 z2 z3 g0.1 g0.2 g1.1 g1.2 g2.1 g2.2 g3.1 g3.2
        unfold big at hx
        simp only [Value.agg.injEq] at hx
        have hcs' : cs' = [.int .u64 (L0 x), .int .u64 (L1 x), .int .u64 (L2 x), .int .u64 (L3 x)] := by
          have : cs'.toArray = #[.int .u64 (L0 x), .int .u64 (L1 x), .int .u64 (L2 x), .int .u64 (L3 x)] := by rw [hz, ← hx]; rfl
          simpa using congrArg Array.toList this
        refine ⟨x, ?_, ?_, ?_, ?_⟩
        · have := hc 0 (by omega); rw [hcs'] at this; simpa [Addr.add] using this
        · have := hc 1 (by omega); rw [hcs'] at this; simpa using this
        · have := hc 2 (by omega); rw [hcs'] at this; simpa using this
        · have := hc 3 (by omega); rw [hcs'] at this; simpa using this
    obtain ⟨N, hN⟩ := Deep.choose_lt key
    refine ⟨some a, len, cap, N, rfl, .inr ⟨a, a.block, a.off, rfl, ?_, ?_⟩⟩
    · intro h0
      have := (hN 0 h0).1
      obtain ⟨g, o, sp⟩ := a
      rcases sp with _ | sp
      · rfl
      · simp [Addr.add, World.cell?] at this
        split at this <;> simp at this
    · by_cases h0 : 0 < len
      · have hsp : a = ⟨a.block, a.off, none⟩ := by
          have := (hN 0 h0).1
          obtain ⟨g, o, sp⟩ := a
          rcases sp with _ | sp
          · rfl
          · simp [Addr.add, World.cell?] at this
            split at this <;> simp at this
        intro i hi
        have := hN i hi
        rw [hsp] at this
        simpa only [Addr.add_lit] using this
      · intro i hi; omega
end Go.Proofs.Ytefnlmiephombaa
