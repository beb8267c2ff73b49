/- A list of records that the law itself makes by append. -/
import Derived.Test.YtfohemgfiidokaaDoorPe
namespace Go.Proofs.YtfohemgfiidokaaDoor
open Go.RowKit Go.Sort

theorem St.grown {w0 w w' : World} {A : List Nat} {D : Nat} {d : Dk} {o : Option (Nat × Va)} {R : List (Value × List (List Int))} (h : St w0 A D d o R w) {row : Option Nat} (hg : w.grownBy w' row) (hrow : ∀ g, row = some g → g ∈ A) (g' : Nat) (hg' : (w.heap.size ≤ g' ∧ g' < w'.heap.size) ∨ g' ∈ A) : St w0 (g' :: A) D d o R w' := by
  obtain ⟨ρ, h1, h2, h3, h4, h5, h6⟩ := h
  have hs := h4.size
  have hsz := hg.size
  have hold : ∀ g, g < w.heap.size → (if w.heap.size ≤ g' ∧ g = g' then 4 else ρ g) = ρ g := fun g hgl => if_neg (by omega)
  have mv : MvV ρ (fun k => if w.heap.size ≤ g' ∧ k = g' then 4 else ρ k) (row.getD 0) w w' := ⟨hg.os, hg.tape, hg.output, hg.size, hold, fun g hgl hr => hg.block g hgl fun e => by
    have ha := (h3 g (hrow g e.symm)).2.2
    rcases hr with hr | ⟨-, hr⟩
    · omega
    · rw [← e] at hr; exact hr rfl⟩
  refine ⟨fun k => if w.heap.size ≤ g' ∧ k = g' then 4 else ρ k, h1.other hg.size (fun g hgl hr => ⟨hold g hgl, hg.block g hgl fun e => ?_⟩) (fun k hk => ?_), fun g hgl => ?_, fun a ha => ?_, ⟨hg.os.trans h4.os, hg.tape.trans h4.tape, hg.output.trans h4.output, by omega, fun g hgl => ?_⟩, fun V x e => ?_, fun p hp => (h6 p hp).mvv mv⟩
  · have := (h3 g (hrow g e.symm)).2.2
    omega
  · have h0 := h1.fresh k (by omega)
    by_cases hc : w.heap.size ≤ g' ∧ k = g'
    · rcases hg' with ⟨q1, q2⟩ | q
      · omega
      · have := (h3 g' q).1; omega
    · rw [if_neg hc]; exact h0
  · show (if w.heap.size ≤ g' ∧ g = g' then 4 else ρ g) = 0
    rw [hold g (by omega)]; exact h2 g hgl
  · show a < w'.heap.size ∧ w0.heap.size ≤ a ∧ (if w.heap.size ≤ g' ∧ a = g' then 4 else ρ a) = 4
    have hA : ∀ a, a ∈ A → a < w'.heap.size ∧ w0.heap.size ≤ a ∧ (if w.heap.size ≤ g' ∧ a = g' then 4 else ρ a) = 4 := fun a ha => by
      have h3a := h3 a ha
      exact ⟨by omega, h3a.2.1, by rw [hold a h3a.1]; exact h3a.2.2⟩
    rcases List.mem_cons.1 ha with rfl | ha
    · rcases hg' with ⟨q1, q2⟩ | q
      · exact ⟨q2, by omega, if_pos ⟨q1, rfl⟩⟩
      · exact hA a q
    · exact hA a ha
  · exact (hg.block g (by omega) fun e => by have := (h3 g (hrow g e.symm)).2.1; omega).trans (h4.block g hgl)
  · obtain ⟨q1, q2, q3, q4⟩ := h5 V x e
    have hlt := q1.lt
    refine ⟨q1.same (hg.block V hlt fun e => q4 (hrow V e.symm)), ?_, q3, fun hm => ?_⟩
    · show (if w.heap.size ≤ g' ∧ V = g' then 4 else ρ V) = 4
      rw [hold V hlt]; exact q2
    · rcases List.mem_cons.1 hm with rfl | hm
      · rcases hg' with ⟨q, -⟩ | q
        · omega
        · exact q4 q
      · exact q4 hm
/-- a list that the law has grown, of rows that were there ahead of it -/
def OwnL (w0 : World) (A : List Nat) (w : World) (v : Value) (ls : List (List Int)) : Prop :=
  ∃ vs : List Value, w.ownsRow w0.heap.size 35 1 v ls.length vs ∧ (∀ j, j < ls.length → ∃ u, vs[j]? = some u ∧ RdB w0 u (ls[j]?.getD [])) ∧ ∀ g, v.ownBlock = some g → g ∈ A
theorem OwnL.nil (w0 : World) (A : List Nat) (w : World) : OwnL w0 A w (.slice none 0 0) [] := ⟨[], ⟨rfl, .inl ⟨rfl, rfl⟩⟩, fun j hj => by simp at hj, fun g h => by simp [Value.ownBlock] at h⟩
theorem OwnL.blocks {w0 w w' : World} {A : List Nat} {v : Value} {ls : List (List Int)} (h : OwnL w0 A w v ls) (hb : ∀ a, a ∈ A → w'.heap[a]? = w.heap[a]?) : OwnL w0 A w' v ls := by
  obtain ⟨vs, ⟨h1, h2⟩, h3, h4⟩ := h
  refine ⟨vs, ⟨h1, ?_⟩, h3, h4⟩
  rcases h2 with h2 | ⟨g, cap, cur, rfl, q1, q2, q3⟩
  · exact .inl h2
  · exact .inr ⟨g, cap, cur, rfl, q1, (hb g (h4 g rfl)).trans q2, q3⟩
theorem OwnL.more {w0 w : World} {A A' : List Nat} {v : Value} {ls : List (List Int)} (h : OwnL w0 A w v ls) (hA : ∀ a, a ∈ A → a ∈ A') : OwnL w0 A' w v ls := by
  obtain ⟨vs, h1, h3, h4⟩ := h
  exact ⟨vs, h1, h3, fun g hg => hA g (h4 g hg)⟩
/-- what may be read of it, up to any record -/
theorem OwnL.take {w0 w : World} {A : List Nat} {v : Value} {ls : List (List Int)} (h : OwnL w0 A w v ls) (hb : RowKit.Below w0.heap.size w0 w) : ∃ p cap, v = .slice p ls.length cap ∧ ls.length ≤ cap ∧ (p = none → cap = 0) ∧ ∀ k, k ≤ ls.length → RdL w (.slice p k cap) (ls.take k) := by
  obtain ⟨vs, ⟨h1, h2⟩, h3, h4⟩ := h
  rcases h2 with ⟨rfl, h2⟩ | ⟨g, cap, cur, rfl, q1, q2, q3, q4, q5, q6⟩
  · have hn : ls = [] := List.length_eq_zero_iff.1 h2
    subst hn
    refine ⟨none, 0, rfl, Nat.le_refl _, fun _ => rfl, fun k hk => .inl ⟨?_, by simp⟩⟩
    have : k = 0 := by simpa using hk
    rw [this]
  · refine ⟨some ⟨g, 0, none⟩, cap, rfl, q3, fun e => by simp at e, fun k hk => .inr ⟨_, g, 0, cap, by rw [List.length_take, Nat.min_eq_left hk], by rw [List.length_take]; omega, fun _ => rfl, fun j hj => ?_⟩⟩
    have hj' : j < k ∧ j < ls.length := by rw [List.length_take] at hj; omega
    obtain ⟨u, e1, e2⟩ := h3 j hj'.2
    refine ⟨u, ?_, ?_⟩
    · rw [cell_of_row w g (0 + j) cur _ _ q2, Nat.zero_add, ← Array.getElem?_toList, ← e1, ← q6, List.getElem?_take_of_lt (by omega)]
    · rw [List.getElem?_take_of_lt hj'.1]; exact e2.keep hb
/-- one record more -/
theorem OwnL.grow {w0 w w' : World} {A : List Nat} {D : Nat} {d : Dk} {o : Option (Nat × Va)} {R : List (Value × List (List Int))} {v v' : Value} {ls : List (List Int)} {u : Value} {r : List Int} (h : St w0 A D d o R w) {vs : List Value} (hl : vs.length = ls.length) (hel : ∀ j, j < ls.length → ∃ u, vs[j]? = some u ∧ RdB w0 u (ls[j]?.getD [])) (hA : ∀ g, v.ownBlock = some g → g ∈ A)
    (hu : RdB w0 u r) (hown : w'.ownsRow w0.heap.size 35 1 v' (ls.length + 1) (vs ++ [u])) (hg : w.grownBy w' v.ownBlock) (hnew : ∀ g, v'.ownBlock = some g → (w.heap.size ≤ g ∧ g < w'.heap.size) ∨ g ∈ A) : ∃ A', St w0 A' D d o R w' ∧ OwnL w0 A' w' v' (ls ++ [r]) := by
  have hown2 := hown
  rcases hown2.2 with ⟨-, h0⟩ | ⟨g, cap, cur, rfl, -⟩
  · omega
  · refine ⟨g :: A, h.grown hg hA g (hnew g rfl), vs ++ [u], by rw [List.length_append]; exact hown, fun j hj => ?_, fun g2 e => by cases e; exact List.mem_cons_self ..⟩
    by_cases hlt : j < ls.length
    · obtain ⟨x, e1, e2⟩ := hel j hlt
      exact ⟨x, by rw [List.getElem?_append_left (by omega)]; exact e1, by rw [List.getElem?_append_left hlt]; exact e2⟩
    · have hje : j = ls.length := by simp at hj; omega
      subst hje
      exact ⟨u, by rw [← hl, List.getElem?_append_right (Nat.le_refl _), Nat.sub_self]; rfl, by rw [List.getElem?_append_right (Nat.le_refl _), Nat.sub_self]; exact hu⟩
end Go.Proofs.YtfohemgfiidokaaDoor
