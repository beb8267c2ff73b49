/- A change is put behind a file's loose ones. -/
import Derived.Test.YtfohemgfiidokaaDi
import Derived.Test.YtfohemgfiidokaaDh
namespace Go.Proofs.Ytfohemgfiidokaa
open Go.RowKit Go.Sort

theorem Try.info88 : (Try.prog.info? 88).map (fun i => (i.zero, i.size, i.bytes)) = some (some .nilIface, 1, 16) := by kernel_rfl

theorem RdR.move {w w' : World} {ρ ρ' : Nat → Nat} {v : Value} {xs : List Int} (h : RdR w ρ v xs) (hs : w.heap.size ≤ w'.heap.size) (hk : ∀ g, g < w.heap.size → ρ g = 0 → ρ' g = 0 ∧ w'.heap[g]? = w.heap[g]?) : RdR w' ρ' v xs := by
  rcases h with h | ⟨g, cap, h1, h2, h3, h4, h5⟩
  · exact .inl h
  · exact .inr ⟨g, cap, h1, h2, (hk g h4 h3).1, by omega, fun j hj => by rw [World.cell?_of_block (hk g h4 h3).2]; exact h5 j hj⟩
theorem ChgR.move {w w' : World} {ρ ρ' : Nat → Nat} {u : Value} {c : Chg} (h : ChgR w ρ u c) (hs : w.heap.size ≤ w'.heap.size) (hk : ∀ g, g < w.heap.size → ρ g = 0 → ρ' g = 0 ∧ w'.heap[g]? = w.heap[g]?) : ChgR w' ρ' u c := by
  cases c with
  | wr c => obtain ⟨cv, h1, h2⟩ := h; exact ⟨cv, h1, h2.move hs hk⟩
  | ct n => exact h
theorem FilAt.move {w w' : World} {ρ ρ' : Nat → Nat} {B D f : Nat} {F : Fil} (h : FilAt w ρ B D f F) (hs : w.heap.size ≤ w'.heap.size) (hk : ∀ g, g < w.heap.size → ρ g = 0 ∨ ρ g = 2 + f → ρ' g = ρ g ∧ w'.heap[g]? = w.heap[g]?)
    (hc : w'.cell? ⟨D, 2 * f, none⟩ = w.cell? ⟨D, 2 * f, none⟩) (hc1 : w'.cell? ⟨D, 2 * f + 1, none⟩ = w.cell? ⟨D, 2 * f + 1, none⟩) : FilAt w' ρ' B D f F := by
  obtain ⟨sv, lv, h1, h2, h3, us, k1, k2, k3⟩ := h
  have hk0 : ∀ g, g < w.heap.size → ρ g = 0 → ρ' g = 0 ∧ w'.heap[g]? = w.heap[g]? := fun g hl hg => let ⟨a, b⟩ := hk g hl (.inl hg); ⟨a.trans hg, b⟩
  refine ⟨sv, lv, hc.trans h1, hc1.trans h2, h3.move hs hk0, us, own_other k1 fun g hg => (hk g (own_lt k1 hg) (.inr (k2 g hg))).2, fun g hg => ?_, fun j hj => ?_⟩
  · rw [(hk g (own_lt k1 hg) (.inr (k2 g hg))).1]; exact k2 g hg
  · obtain ⟨u, h4, h5⟩ := k3 j hj
    exact ⟨u, h4, h5.move hs hk0⟩

/-- one more loose change of file f: its row stands where it stood, or in a new block -/
theorem DiskAt.appended {W w1 : World} {ρ : Nat → Nat} {B D f : Nat} {d : Dk} {sv lv v' u : Value} {us : List Value} {c : Chg} (h : DiskAt W ρ B D d) (hf : f < 2)
    (c0 : W.cell? ⟨D, 2 * f, none⟩ = some sv) (c1 : W.cell? ⟨D, 2 * f + 1, none⟩ = some lv) (hs : RdR W ρ sv (d.file f).s)
    (hrole : ∀ g, lv.ownBlock = some g → ρ g = 2 + f) (hch : ∀ j (h : j < (d.file f).l.length), ∃ u, us[j]? = some u ∧ ChgR W ρ u (d.file f).l[j]) (hus : us.length = (d.file f).l.length)
    (hu : ChgR W ρ u c) (hown : w1.ownsRow B 88 1 v' ((d.file f).l.length + 1) (us ++ [u])) (hg : W.grownBy w1 lv.ownBlock) (hfr : ∀ g, v'.ownBlock = some g → lv.ownBlock = some g ∨ g = W.heap.size) :
    ∃ ρ', DiskAt (w1.setCell ⟨D, 2 * f + 1, none⟩ v') ρ' B D (d.setFile f ⟨(d.file f).s, (d.file f).l ++ [c]⟩) ∧ Mv ρ ρ' W (w1.setCell ⟨D, 2 * f + 1, none⟩ v') := by
  have hlt := h.lt
  have hB := h.base
  have hsz := hg.size
  let ρ' : Nat → Nat := fun k => if v'.ownBlock = some k then 2 + f else ρ k
  have hρ : ∀ g, g < W.heap.size → ρ g ≠ 2 + f → ρ' g = ρ g := fun g hgl hne => by
    show (if v'.ownBlock = some g then 2 + f else ρ g) = ρ g
    rw [if_neg]
    intro e
    rcases hfr g e with e | e
    · exact hne (hrole g e)
    · omega
  have hheap : ∀ g, g < W.heap.size → ρ g ≠ 2 + f → g ≠ D → (w1.setCell ⟨D, 2 * f + 1, none⟩ v').heap[g]? = W.heap[g]? := fun g hgl hne hD => by
    rw [set_heap hD]
    exact hg.block g hgl fun e => hne (hrole g e.symm)
  have hDw : w1.heap[D]? = W.heap[D]? := hg.block D hlt fun e => by have := hrole D e.symm; have := h.role; omega
  have hcell : ∀ o, o ≠ 2 * f + 1 → (w1.setCell ⟨D, 2 * f + 1, none⟩ v').cell? ⟨D, o, none⟩ = W.cell? ⟨D, o, none⟩ := fun o ho => (set_cell ho).trans (World.cell?_of_block hDw)
  have hfz : ∀ o, (w1.setCell ⟨D, 2 * f + 1, none⟩ v').frozen? ⟨D, o, none⟩ = false := fun o => by rw [set_frozen, World.frozen?_of_block hDw]; exact h.fz o
  have hsize : W.heap.size ≤ (w1.setCell ⟨D, 2 * f + 1, none⟩ v').heap.size := by rw [set_size]; exact hsz
  have hroleD : ρ' D = 1 := by rw [hρ D hlt (by have := h.role; omega)]; exact h.role
  have hfresh : ∀ k, (w1.setCell ⟨D, 2 * f + 1, none⟩ v').heap.size ≤ k → ρ' k = 0 := fun k hk => by
    rw [set_size] at hk
    show (if v'.ownBlock = some k then 2 + f else ρ k) = 0
    rw [if_neg (fun e => by have := own_lt hown e; omega)]
    exact h.fresh k (by omega)
  have hk0 : ∀ g, g < W.heap.size → ρ g = 0 → ρ' g = 0 ∧ (w1.setCell ⟨D, 2 * f + 1, none⟩ v').heap[g]? = W.heap[g]? := fun g hgl he => ⟨by rw [hρ g hgl (by omega)]; exact he, hheap g hgl (by omega) (fun e => by subst e; have := h.role; omega)⟩
  have hnew : FilAt (w1.setCell ⟨D, 2 * f + 1, none⟩ v') ρ' B D f ⟨(d.file f).s, (d.file f).l ++ [c]⟩ := by
    refine ⟨sv, v', (hcell _ (by omega)).trans c0, set_same ((World.cell?_of_block hDw).trans c1), ?_, us ++ [u], ?_, ?_, ?_⟩
    · exact hs.move hsize hk0
    · have e : (⟨(d.file f).s, (d.file f).l ++ [c]⟩ : Fil).l.length = (d.file f).l.length + 1 := by simp
      rw [e]
      exact own_other hown fun g hgb => set_heap fun e => by
        subst e
        rcases hfr g hgb with e | e
        · have := hrole g e; have := h.role; omega
        · omega
    · intro g hgb
      show (if v'.ownBlock = some g then 2 + f else ρ g) = 2 + f
      rw [if_pos hgb]
    · intro j hj
      have hj' : j < (d.file f).l.length + 1 := by simpa using hj
      by_cases hjl : j < (d.file f).l.length
      · obtain ⟨u2, e1, e2⟩ := hch j hjl
        refine ⟨u2, by rw [List.getElem?_append_left (by omega)]; exact e1, ?_⟩
        have e3 : (⟨(d.file f).s, (d.file f).l ++ [c]⟩ : Fil).l[j]'hj = (d.file f).l[j] := List.getElem_append_left hjl
        rw [e3]
        exact e2.move hsize hk0
      · have : j = (d.file f).l.length := by omega
        subst this
        refine ⟨u, by rw [List.getElem?_append_right (by omega)]; simp [hus], ?_⟩
        have e3 : (⟨(d.file f).s, (d.file f).l ++ [c]⟩ : Fil).l[(d.file f).l.length]'hj = c := by simp
        rw [e3]
        exact hu.move hsize hk0
  have hoth : ∀ f2, f2 < 2 → f2 ≠ f → FilAt (w1.setCell ⟨D, 2 * f + 1, none⟩ v') ρ' B D f2 (d.file f2) := fun f2 hf2 hne =>
    (h.file f2 hf2).move hsize (fun g hgl hg => ⟨hρ g hgl (by omega), hheap g hgl (by omega) (fun e => by subst e; have := h.role; omega)⟩) (hcell _ (by omega)) (hcell _ (by omega))
  have b1 : RowKit.Below 0 W w1 := (RowKit.Below.refl 0 W).grown hg (Nat.zero_le _) fun _ _ => Nat.zero_le _
  have hmv : Mv ρ ρ' W w1 := by
    refine ⟨b1.os, b1.tape, b1.output, b1.size, fun g hgl => ?_, fun g hgl hr => hg.block g hgl fun e => by have := hrole g e.symm; omega⟩
    show (if v'.ownBlock = some g then 2 + f else ρ g) = ρ g
    split
    · rename_i e
      rcases hfr g e with e | e
      · exact (hrole g e).symm
      · omega
    · rfl
  refine ⟨ρ', ?_, hmv.set hroleD _ _⟩
  rcases f with _ | _ | f
  · exact ⟨hB, hroleD, hfresh, hnew, hoth 1 (by omega) (by omega), (hcell _ (by omega)).trans h.most, (hcell _ (by omega)).trans h.off, (hcell _ (by omega)).trans h.fused, (hcell _ (by omega)).trans h.left, hfz⟩
  · exact ⟨hB, hroleD, hfresh, hoth 0 (by omega) (by omega), hnew, (hcell _ (by omega)).trans h.most, (hcell _ (by omega)).trans h.off, (hcell _ (by omega)).trans h.fused, (hcell _ (by omega)).trans h.left, hfz⟩
  · omega
end Go.Proofs.Ytfohemgfiidokaa
