/- A disk in memory: each block has a role (0: only read; 1: the disk; 2, 3: the row of the loose changes of file 0, 1), so that no two of them are one. -/
import Derived.Test.YtfohemgfiidokaaDd
namespace Go.Proofs.Ytfohemgfiidokaa
open Go.RowKit Go.Sort

structure Fil where
  s : List Int
  l : List Chg
structure Dk where
  f0 : Fil
  f1 : Fil
  most : Int
  off : Bool
  fused : Bool
  left : Int

def RdR (w : World) (ρ : Nat → Nat) (v : Value) (xs : List Int) : Prop :=
  (v = .slice none 0 0 ∧ xs = []) ∨ ∃ g cap, v = .slice (some ⟨g, 0, none⟩) xs.length cap ∧ xs.length ≤ cap ∧ ρ g = 0 ∧ g < w.heap.size ∧ ∀ j, j < xs.length → w.cell? ⟨g, j, none⟩ = some (.int .u8 (xs[j]?.getD 0))
def ChgR (w : World) (ρ : Nat → Nat) (u : Value) : Chg → Prop
  | .wr c => ∃ cv, u = .iface 79 (.agg #[cv]) ∧ RdR w ρ cv c
  | .ct n => u = .iface 81 (.agg #[.int .i64 n]) ∧ 0 ≤ n
def LoR (w : World) (ρ : Nat → Nat) (B r : Nat) (v : Value) (l : List Chg) : Prop :=
  ∃ us : List Value, w.ownsRow B 88 1 v l.length us ∧ (∀ g, v.ownBlock = some g → ρ g = r) ∧ ∀ j (h : j < l.length), ∃ u, us[j]? = some u ∧ ChgR w ρ u l[j]
def FilAt (w : World) (ρ : Nat → Nat) (B D f : Nat) (F : Fil) : Prop :=
  ∃ sv lv, w.cell? ⟨D, 2 * f, none⟩ = some sv ∧ w.cell? ⟨D, 2 * f + 1, none⟩ = some lv ∧ RdR w ρ sv F.s ∧ LoR w ρ B (2 + f) lv F.l
structure DiskAt (w : World) (ρ : Nat → Nat) (B D : Nat) (d : Dk) : Prop where
  base : B ≤ D
  role : ρ D = 1
  fresh : ∀ k, w.heap.size ≤ k → ρ k = 0
  f0 : FilAt w ρ B D 0 d.f0
  f1 : FilAt w ρ B D 1 d.f1
  most : w.cell? ⟨D, 4, none⟩ = some (.int .i64 d.most)
  off : w.cell? ⟨D, 5, none⟩ = some (.bool d.off)
  fused : w.cell? ⟨D, 6, none⟩ = some (.bool d.fused)
  left : w.cell? ⟨D, 7, none⟩ = some (.int .i64 d.left)
  fz : ∀ o, w.frozen? ⟨D, o, none⟩ = false

theorem RdR.rdb {w : World} {ρ : Nat → Nat} {v : Value} {xs : List Int} (h : RdR w ρ v xs) : RdB w v xs := by
  rcases h with h | ⟨g, cap, h1, h2, h3, h4, h5⟩
  · exact .inl h
  · exact .inr ⟨⟨g, 0, none⟩, g, 0, cap, h1, h2, fun _ => rfl, fun j hj => by rw [Nat.zero_add]; exact h5 j hj⟩
theorem ChgR.at {w : World} {ρ : Nat → Nat} {u : Value} {c : Chg} (h : ChgR w ρ u c) : ChgAt w u c := by
  cases c with
  | wr c => obtain ⟨cv, h1, h2⟩ := h; exact ⟨cv, h1, h2.rdb⟩
  | ct n => exact h
theorem own_cell {w : World} {B e : Nat} {v : Value} {n : Nat} {us : List Value} {g cap : Nat} (h : w.ownsRow B e 1 v n us) (hv : v = .slice (some ⟨g, 0, none⟩) n cap) (j : Nat) (hj : j < n) : w.cell? ⟨g, j, none⟩ = us[j]? := by
  subst hv
  exact h.cellAt j (by omega)
theorem LoR.at {w : World} {ρ : Nat → Nat} {B r : Nat} {v : Value} {l : List Chg} (h : LoR w ρ B r v l) : LooseAt w v l := by
  obtain ⟨us, h1, h2, h3⟩ := h
  rcases h1.2 with ⟨e1, e2⟩ | ⟨g, cap, cur, e1, -⟩
  · exact .inl ⟨e1, List.length_eq_zero_iff.1 e2⟩
  · refine .inr ⟨g, cap, e1, fun j hj => ?_⟩
    obtain ⟨u, h4, h5⟩ := h3 j hj
    exact ⟨u, by rw [own_cell h1 e1 j hj]; exact h4, h5.at⟩

/-- blocks of role 0 as they were -/
theorem RdR.other {w w' : World} {ρ : Nat → Nat} {v : Value} {xs : List Int} (h : RdR w ρ v xs) (hs : w.heap.size ≤ w'.heap.size) (hk : ∀ g, g < w.heap.size → ρ g = 0 → w'.heap[g]? = w.heap[g]?) : RdR w' ρ v xs := by
  rcases h with h | ⟨g, cap, h1, h2, h3, h4, h5⟩
  · exact .inl h
  · exact .inr ⟨g, cap, h1, h2, h3, by omega, fun j hj => by rw [World.cell?_of_block (hk g h4 h3)]; exact h5 j hj⟩
theorem ChgR.other {w w' : World} {ρ : Nat → Nat} {u : Value} {c : Chg} (h : ChgR w ρ u c) (hs : w.heap.size ≤ w'.heap.size) (hk : ∀ g, g < w.heap.size → ρ g = 0 → w'.heap[g]? = w.heap[g]?) : ChgR w' ρ u c := by
  cases c with
  | wr c => obtain ⟨cv, h1, h2⟩ := h; exact ⟨cv, h1, h2.other hs hk⟩
  | ct n => exact h
theorem own_lt {w : World} {B e size n : Nat} {v : Value} {us : List Value} (h : w.ownsRow B e size v n us) {g : Nat} (hg : v.ownBlock = some g) : g < w.heap.size := (h.lt g hg).2
theorem own_other {w w' : World} {B e size n : Nat} {v : Value} {us : List Value} (h : w.ownsRow B e size v n us) (hk : ∀ g, v.ownBlock = some g → w'.heap[g]? = w.heap[g]?) : w'.ownsRow B e size v n us := by
  obtain ⟨h1, h2⟩ := h
  refine ⟨h1, ?_⟩
  rcases h2 with h2 | ⟨g, cap, cur, e1, e2, e3, e4⟩
  · exact .inl h2
  · exact .inr ⟨g, cap, cur, e1, e2, by rw [hk g (by rw [e1]; rfl)]; exact e3, e4⟩
theorem LoR.other {w w' : World} {ρ : Nat → Nat} {B r : Nat} {v : Value} {l : List Chg} (h : LoR w ρ B r v l) (hs : w.heap.size ≤ w'.heap.size) (hk : ∀ g, g < w.heap.size → ρ g = 0 ∨ ρ g = r → w'.heap[g]? = w.heap[g]?) : LoR w' ρ B r v l := by
  obtain ⟨us, h1, h2, h3⟩ := h
  refine ⟨us, own_other h1 fun g hg => hk g (own_lt h1 hg) (.inr (h2 g hg)), h2, fun j hj => ?_⟩
  obtain ⟨u, h4, h5⟩ := h3 j hj
  exact ⟨u, h4, h5.other hs fun g hl hg => hk g hl (.inl hg)⟩
theorem FilAt.other {w w' : World} {ρ : Nat → Nat} {B D f : Nat} {F : Fil} (h : FilAt w ρ B D f F) (hs : w.heap.size ≤ w'.heap.size) (hk : ∀ g, g < w.heap.size → ρ g = 0 ∨ ρ g = 2 + f → w'.heap[g]? = w.heap[g]?)
    (hc : w'.cell? ⟨D, 2 * f, none⟩ = w.cell? ⟨D, 2 * f, none⟩) (hc1 : w'.cell? ⟨D, 2 * f + 1, none⟩ = w.cell? ⟨D, 2 * f + 1, none⟩) : FilAt w' ρ B D f F := by
  obtain ⟨sv, lv, h1, h2, h3, h4⟩ := h
  exact ⟨sv, lv, hc.trans h1, hc1.trans h2, h3.other hs fun g hl hg => hk g hl (.inl hg), h4.other hs hk⟩
theorem DiskAt.lt {w : World} {ρ : Nat → Nat} {B D : Nat} {d : Dk} (h : DiskAt w ρ B D d) : D < w.heap.size := block_lt_of_cell h.most
theorem DiskAt.keep {w w' : World} {ρ : Nat → Nat} {B D : Nat} {d : Dk} (h : DiskAt w ρ B D d) (hb : Below w.heap.size w w') : DiskAt w' ρ B D d := by
  have hD := h.lt
  have hc : ∀ o, w'.cell? ⟨D, o, none⟩ = w.cell? ⟨D, o, none⟩ := fun o => World.cell?_of_block (hb.block D hD)
  exact ⟨h.base, h.role, fun k hk => h.fresh k (Nat.le_trans hb.size hk), h.f0.other hb.size (fun g hl _ => hb.block g hl) (hc _) (hc _), h.f1.other hb.size (fun g hl _ => hb.block g hl) (hc _) (hc _),
    (hc _).trans h.most, (hc _).trans h.off, (hc _).trans h.fused, (hc _).trans h.left, fun o => frozen_keep (h.fz o) hb hD⟩
/-- a field of the disk that is no file is written -/
theorem set_heap {w : World} {D o g : Nat} {v : Value} (h : g ≠ D) : (w.setCell ⟨D, o, none⟩ v).heap[g]? = w.heap[g]? := heap_setCell_other _ _ _ _ (by simp; omega)
theorem set_cell {w : World} {D o o' : Nat} {v : Value} (h : o' ≠ o) : (w.setCell ⟨D, o, none⟩ v).cell? ⟨D, o', none⟩ = w.cell? ⟨D, o', none⟩ := by
  apply World.cell?_setCell_other
  exact fun e => h (congrArg Addr.off e).symm
theorem filAt_set {w : World} {ρ : Nat → Nat} {B D f o : Nat} {F : Fil} {v : Value} (h : FilAt w ρ B D f F) (hr : ρ D = 1) (h0 : 2 * f ≠ o) (h1 : 2 * f + 1 ≠ o) : FilAt (w.setCell ⟨D, o, none⟩ v) ρ B D f F :=
  h.other (by simp [World.setCell]) (fun g _ hg => set_heap fun e => by subst e; omega) (set_cell h0) (set_cell h1)
theorem set_frozen {w : World} {D o o' : Nat} {v : Value} : (w.setCell ⟨D, o, none⟩ v).frozen? ⟨D, o', none⟩ = w.frozen? ⟨D, o', none⟩ := by simp
theorem set_same {w : World} {D o : Nat} {u v : Value} (h : w.cell? ⟨D, o, none⟩ = some u) : (w.setCell ⟨D, o, none⟩ v).cell? ⟨D, o, none⟩ = some v := World.cell?_setCell_same _ _ _ h
theorem set_size {w : World} {D o : Nat} {v : Value} : (w.setCell ⟨D, o, none⟩ v).heap.size = w.heap.size := by simp [World.setCell]
theorem DiskAt.setOff {w : World} {ρ : Nat → Nat} {B D : Nat} {d : Dk} (h : DiskAt w ρ B D d) (b : Bool) : DiskAt (w.setCell ⟨D, 5, none⟩ (.bool b)) ρ B D { d with off := b } :=
  ⟨h.base, h.role, fun k hk => h.fresh k (by rwa [set_size] at hk), filAt_set h.f0 h.role (by omega) (by omega), filAt_set h.f1 h.role (by omega) (by omega),
    (set_cell (by omega)).trans h.most, set_same h.off, (set_cell (by omega)).trans h.fused, (set_cell (by omega)).trans h.left, fun o => set_frozen.trans (h.fz o)⟩
theorem DiskAt.setFused {w : World} {ρ : Nat → Nat} {B D : Nat} {d : Dk} (h : DiskAt w ρ B D d) (b : Bool) : DiskAt (w.setCell ⟨D, 6, none⟩ (.bool b)) ρ B D { d with fused := b } :=
  ⟨h.base, h.role, fun k hk => h.fresh k (by rwa [set_size] at hk), filAt_set h.f0 h.role (by omega) (by omega), filAt_set h.f1 h.role (by omega) (by omega),
    (set_cell (by omega)).trans h.most, (set_cell (by omega)).trans h.off, set_same h.fused, (set_cell (by omega)).trans h.left, fun o => set_frozen.trans (h.fz o)⟩
theorem DiskAt.setLeft {w : World} {ρ : Nat → Nat} {B D : Nat} {d : Dk} (h : DiskAt w ρ B D d) (n : Int) : DiskAt (w.setCell ⟨D, 7, none⟩ (.int .i64 n)) ρ B D { d with left := n } :=
  ⟨h.base, h.role, fun k hk => h.fresh k (by rwa [set_size] at hk), filAt_set h.f0 h.role (by omega) (by omega), filAt_set h.f1 h.role (by omega) (by omega),
    (set_cell (by omega)).trans h.most, (set_cell (by omega)).trans h.off, (set_cell (by omega)).trans h.fused, set_same h.left, fun o => set_frozen.trans (h.fz o)⟩

/-- a row of one's own that was made behind all that has a role is one that is only read -/
theorem RowO.rdr {w : World} {B : Nat} {v : Value} {xs : List Int} {ρ : Nat → Nat} (h : RowO w B v xs) (hf : ∀ k, B ≤ k → ρ k = 0) : RdR w ρ v xs := by
  have hl : ∀ g, v.ownBlock = some g → g < w.heap.size := fun g hg => own_lt h hg
  rcases h.2 with ⟨h1, h2⟩ | ⟨g, cap, cur, h1, h2, h3, h4, h5, h6, h7⟩
  · exact .inl ⟨h1, List.length_eq_zero_iff.1 h2⟩
  · refine .inr ⟨g, cap, h1, h4, hf g h2, hl g (by rw [h1]; rfl), fun j hj => ?_⟩
    rw [own_cell h h1 j hj]
    simp [u8s, List.getElem?_eq_getElem hj]
/-- a file settled: its text is a new row, nothing is loose -/
theorem settled_fil {w1 : World} {ρ : Nat → Nat} {B D f B1 : Nat} {v sv lv : Value} {xs : List Int} (hr : RowO w1 B1 v xs) (hf : ∀ k, B1 ≤ k → ρ k = 0) (hD : ρ D = 1) (c0 : w1.cell? ⟨D, 2 * f, none⟩ = some sv) (c1 : w1.cell? ⟨D, 2 * f + 1, none⟩ = some lv) :
    FilAt ((w1.setCell ⟨D, 2 * f, none⟩ v).setCell ⟨D, 2 * f + 1, none⟩ (.slice none 0 0)) ρ B D f ⟨xs, []⟩ := by
  refine ⟨v, .slice none 0 0, ?_, ?_, ?_, ?_⟩
  · rw [set_cell (by omega)]; exact set_same c0
  · exact set_same ((set_cell (by omega)).trans c1)
  · refine (hr.rdr hf).other (by rw [set_size, set_size]; exact Nat.le_refl _) fun g _ hg => ?_
    have hne : g ≠ D := fun e => by subst e; omega
    rw [set_heap hne, set_heap hne]
  · exact ⟨[], World.ownsRow_nil _ _ _ _, fun g hg => by simp [Value.ownBlock] at hg, fun j hj => by simp at hj⟩
end Go.Proofs.Ytfohemgfiidokaa
