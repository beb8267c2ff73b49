/- Both disks and both vaults, as the law's pair has them. The law's open. The law's alike. -/
import Derived.Test.YtfohemgfiidokaaGreatDoorHf
import Derived.Test.YtfohemgfiidokaaGreatDoorGq
import Derived.Test.YtfohemgfiidokaaGreatDoorYu
import Derived.Deep.QuietTactic
import Derived.BigQuiet
namespace Go.Proofs.YtfohemgfiidokaaGreatDoor
open Go.RowKit Go.Sort

def vpt : Option (Nat × Nat × Va) → Value
  | none => .pointer none
  | some (V, _, _) => .pointer (some ⟨V, 0, none⟩)
def xpt : Option (Nat × Nat × Va) → Value
  | none => .pointer none
  | some (_, X, _) => .pointer (some ⟨X, 0, none⟩)
/-- the pair's block P, its vault and the document's -/
structure PV (D R P : Nat) (o : Option (Nat × Nat × Va)) (ρ : Nat → Nat) (w : World) : Prop where
  rp : ρ P = 4
  fz : ∀ q, w.frozen? ⟨P, q, none⟩ = false
  p0 : w.cell? ⟨P, 0, none⟩ = some (.pointer (some ⟨D, 0, none⟩))
  p1 : w.cell? ⟨P, 1, none⟩ = some (.pointer (some ⟨R, 0, none⟩))
  p2 : w.cell? ⟨P, 2, none⟩ = some (vpt o)
  p3 : w.cell? ⟨P, 3, none⟩ = some (xpt o)
  v : ∀ V X x, o = some (V, X, x) → VaAt w V D x ∧ VaAt w X R x ∧ ρ V = 4 ∧ ρ X = 4 ∧ V ≠ X ∧ P ≠ V ∧ P ≠ X
theorem PV.lt {D R P : Nat} {o : Option (Nat × Nat × Va)} {ρ : Nat → Nat} {w : World} (h : PV D R P o ρ w) : P < w.heap.size := block_lt_of_cell h.p0
/-- the bounds of a vault in memory -/
def VB (o : Option (Nat × Nat × Va)) (m : Nat) : Prop := ∀ V X x, o = some (V, X, x) → x.file < 2 ∧ 0 ≤ x.gen ∧ 0 ≤ x.n ∧ x.n ≤ m
theorem VB.up {o : Option (Nat × Nat × Va)} {m m' : Nat} (h : VB o m) (hm : m ≤ m') : VB o m' := fun V X x e => by
  obtain ⟨h1, h2, h3, h4⟩ := h V X x e
  exact ⟨h1, h2, h3, by omega⟩
def PR (w0 : World) (D R P : Nat) (d : Dk) (o : Option (Nat × Nat × Va)) (k m : Nat) (ρ : Nat → Nat) (w : World) : Prop := ∃ r, Rel d r k m ∧ Pair w0 D R d r ρ w ∧ PV D R P o ρ w ∧ DBy d ∧ VB o m
def PRT (w0 : World) (D R P : Nat) (d : Dk) (o : Option (Nat × Nat × Va)) (k m : Nat) (ρ : Nat → Nat) (W w' : World) : Prop :=
  ∃ ρ', PR w0 D R P d o k m ρ' w' ∧ W.heap.size ≤ w'.heap.size ∧ ∀ g, g < W.heap.size → ρ g = 0 → ρ' g = 0 ∧ w'.heap[g]? = W.heap[g]?
/-- what keeps the law's own blocks keeps the pair -/
theorem PV.move {D R P : Nat} {o : Option (Nat × Nat × Va)} {ρ ρ' : Nat → Nat} {w w' : World} (h : PV D R P o ρ w) (hk : ∀ g, g < w.heap.size → ρ g = 4 → ρ' g = 4 ∧ w'.heap[g]? = w.heap[g]?) : PV D R P o ρ' w' := by
  obtain ⟨k1, k2⟩ := hk P h.lt h.rp
  refine ⟨k1, fun q => (World.frozen?_of_block k2).trans (h.fz q), (World.cell?_of_block k2).trans h.p0, (World.cell?_of_block k2).trans h.p1, (World.cell?_of_block k2).trans h.p2, (World.cell?_of_block k2).trans h.p3, fun V X x e => ?_⟩
  obtain ⟨h1, h2, h3, h4, h5, h6, h7⟩ := h.v V X x e
  exact ⟨h1.same (hk V h1.lt h3).2, h2.same (hk X h2.lt h4).2, (hk V h1.lt h3).1, (hk X h2.lt h4).1, h5, h6, h7⟩
theorem PV.keep {D R P : Nat} {o : Option (Nat × Nat × Va)} {ρ : Nat → Nat} {w w' : World} (h : PV D R P o ρ w) (hb : Below w.heap.size w w') : PV D R P o ρ w' := h.move fun g hg hr => ⟨hr, hb.block g hg⟩
theorem PR.keep {w0 w w' : World} {D R P : Nat} {d : Dk} {o : Option (Nat × Nat × Va)} {k m : Nat} {ρ : Nat → Nat} (h : PR w0 D R P d o k m ρ w) (hb : Below w.heap.size w w') : PR w0 D R P d o k m ρ w' := by
  obtain ⟨r, h1, h2, h3, h4, h5⟩ := h
  exact ⟨r, h1, h2.keep hb, h3.keep hb, h4, h5⟩
theorem PR.up {w0 w : World} {D R P : Nat} {d : Dk} {o : Option (Nat × Nat × Va)} {k m k' m' : Nat} {ρ : Nat → Nat} (h : PR w0 D R P d o k m ρ w) (hk : k ≤ k') (hm : m ≤ m') : PR w0 D R P d o k' m' ρ w := by
  obtain ⟨r, h1, h2, h3, h4, h5⟩ := h
  exact ⟨r, h1.up hk hm, h2, h3, h4, h5.up hm⟩
theorem PRT.up {w0 w w' : World} {D R P : Nat} {d : Dk} {o : Option (Nat × Nat × Va)} {k m k' m' : Nat} {ρ : Nat → Nat} (h : PRT w0 D R P d o k m ρ w w') (hk : k ≤ k') (hm : m ≤ m') : PRT w0 D R P d o k' m' ρ w w' := by
  obtain ⟨ρ', h1, h2⟩ := h
  exact ⟨ρ', h1.up hk hm, h2⟩
theorem PRT.after {w0 w w1 w' : World} {D R P : Nat} {d : Dk} {o : Option (Nat × Nat × Va)} {k m : Nat} {ρ : Nat → Nat} (hb : Below w.heap.size w w1) (h : PRT w0 D R P d o k m ρ w1 w') : PRT w0 D R P d o k m ρ w w' := by
  obtain ⟨ρ', h1, h2, h3⟩ := h
  have hs := hb.size
  exact ⟨ρ', h1, by omega, fun g hg hr => ⟨(h3 g (by omega) hr).1, (h3 g (by omega) hr).2.trans (hb.block g hg)⟩⟩
theorem PRT.ofBelow {w0 w w' : World} {D R P : Nat} {d : Dk} {o : Option (Nat × Nat × Va)} {k m : Nat} {ρ : Nat → Nat} (h : PR w0 D R P d o k m ρ w) (hb : Below w.heap.size w w') : PRT w0 D R P d o k m ρ w w' := ⟨ρ, h.keep hb, hb.size, fun g hg hr => ⟨hr, hb.block g hg⟩⟩
theorem PRT.keep {w0 w w1 w' : World} {D R P : Nat} {d : Dk} {o : Option (Nat × Nat × Va)} {k m : Nat} {ρ : Nat → Nat} (h : PRT w0 D R P d o k m ρ w w1) (hb : Below w1.heap.size w1 w') : PRT w0 D R P d o k m ρ w w' := by
  obtain ⟨ρ', h1, h2, h3⟩ := h
  have hs := hb.size
  exact ⟨ρ', h1.keep hb, by omega, fun g hg hr => ⟨(h3 g hg hr).1, (hb.block g (by omega)).trans (h3 g hg hr).2⟩⟩
/-- a call of the program's vault -/
theorem pair_vault {w0 W w' : World} {D R V : Nat} {d d' : Dk} {x' : Va} {r : Rk} {ρ : Nat → Nat} (h : Pair w0 D R d r ρ W) (hV : ρ V = 4) (hl : VLeft2 ρ w0.heap.size D V W d' x' w') :
    ∃ ρ', Pair w0 D R d' r ρ' w' ∧ VaAt w' V D x' ∧ ρ' V = 4 ∧ W.heap.size ≤ w'.heap.size ∧ (∀ g, g < W.heap.size → ρ g = 0 ∨ ρ g = 4 → ρ' g = ρ g) ∧ ∀ g, g < W.heap.size → ρ g = 0 ∨ ρ g = 4 → g ≠ V → w'.heap[g]? = W.heap[g]? := by
  obtain ⟨ρ', k1, k2⟩ := hl
  obtain ⟨-, h2, h3, h4⟩ := h
  have hs := h4.size
  refine ⟨ρ', ⟨k1.disk, h2.other (fun g hg h5 h7 => ⟨k2.role g hg, k2.block g hg (.inr ⟨by omega, fun e => by subst e; omega⟩)⟩) k1.disk.fresh, fun g hg => (k2.role g (by omega)).trans (h3 g hg), h4.trans ⟨k2.os, k2.tape, k2.output, k2.size, fun g hg => k2.block g (by omega) (.inl (h3 g hg))⟩⟩, k1.va, k1.role, k2.size, fun g hg _ => k2.role g hg, fun g hg hr hne => k2.block g hg ?_⟩
  rcases hr with hr | hr
  · exact .inl hr
  · exact .inr ⟨by omega, hne⟩
/-- a call of the document's vault -/
theorem pair_xault {w0 W w' : World} {D R X : Nat} {d : Dk} {x' : Va} {r : Rk} {ρ : Nat → Nat} {k m : Nat} (h : Pair w0 D R d r ρ W) (hX : ρ X = 4) (hl : RXL ρ R X W d x' k m w') :
    ∃ r' ρ', Rel d r' k m ∧ Pair w0 D R d r' ρ' w' ∧ VaAt w' X R x' ∧ ρ' X = 4 ∧ W.heap.size ≤ w'.heap.size ∧ (∀ g, g < W.heap.size → ρ g = 0 ∨ ρ g = 4 → ρ' g = ρ g) ∧ ∀ g, g < W.heap.size → ρ g = 0 ∨ ρ g = 4 → g ≠ X → w'.heap[g]? = W.heap[g]? := by
  obtain ⟨r', ρ', k0, k1, kv, kx, k2⟩ := hl
  obtain ⟨h1, -, h3, h4⟩ := h
  have hs := h4.size
  exact ⟨r', ρ', k0, ⟨h1.other k2.size (fun g hg h5 => ⟨k2.role g hg, k2.block g hg (.inl (by omega)) (fun e => by subst e; omega)⟩) k1.fresh, k1, fun g hg => (k2.role g (by omega)).trans (h3 g hg), h4.trans ⟨k2.os, k2.tape, k2.output, k2.size, fun g hg => k2.block g (by omega) (.inl (by rw [h3 g hg]; omega)) (fun e => by subst e; rw [h3 _ hg] at hX; cases hX)⟩⟩, kv, kx, k2.size, fun g hg _ => k2.role g hg, fun g hg hr hne => k2.block g hg (.inl (by omega)) hne⟩
/-- both calls, one behind the other -/
theorem both_vault {w0 W w1 w2 : World} {D R P V X : Nat} {d' : Dk} {x x' : Va} {k' m' : Nat} {r' : Rk} {ρ ρ1 ρ2 : Nat → Nat} (hv : PV D R P (some (V, X, x)) ρ W)
    (a1 : VaAt w1 V D x') (a2 : ρ1 V = 4) (a3 : W.heap.size ≤ w1.heap.size) (a4 : ∀ g, g < W.heap.size → ρ g = 0 ∨ ρ g = 4 → ρ1 g = ρ g) (a5 : ∀ g, g < W.heap.size → ρ g = 0 ∨ ρ g = 4 → g ≠ V → w1.heap[g]? = W.heap[g]?)
    (b0 : Rel d' r' k' m') (b1 : Pair w0 D R d' r' ρ2 w2) (b2 : VaAt w2 X R x') (b3 : ρ2 X = 4) (b4 : w1.heap.size ≤ w2.heap.size) (b5 : ∀ g, g < w1.heap.size → ρ1 g = 0 ∨ ρ1 g = 4 → ρ2 g = ρ1 g) (b6 : ∀ g, g < w1.heap.size → ρ1 g = 0 ∨ ρ1 g = 4 → g ≠ X → w2.heap[g]? = w1.heap[g]?)
    (hb : DBy d') (hvb : VB (some (V, X, x')) m') : PRT w0 D R P d' (some (V, X, x')) k' m' ρ W w2 := by
  obtain ⟨v1, v2, v3, v4, v5, v6, v7⟩ := hv.v V X x rfl
  have hPl := hv.lt
  have hVl := v1.lt
  have hXl := v2.lt
  have roles : ∀ g, g < W.heap.size → ρ g = 0 ∨ ρ g = 4 → ρ2 g = ρ g := fun g hg hr => (b5 g (by omega) (by rw [a4 g hg hr]; exact hr)).trans (a4 g hg hr)
  have blk : ∀ g, g < W.heap.size → ρ g = 0 ∨ ρ g = 4 → g ≠ V → g ≠ X → w2.heap[g]? = W.heap[g]? := fun g hg hr n1 n2 => (b6 g (by omega) (by rw [a4 g hg hr]; exact hr) n2).trans (a5 g hg hr n1)
  have kP := blk P hPl (.inr hv.rp) v6 v7
  refine ⟨ρ2, ⟨r', b0, b1, ⟨(roles P hPl (.inr hv.rp)).trans hv.rp, fun q => (World.frozen?_of_block kP).trans (hv.fz q), (World.cell?_of_block kP).trans hv.p0, (World.cell?_of_block kP).trans hv.p1, (World.cell?_of_block kP).trans hv.p2, (World.cell?_of_block kP).trans hv.p3, fun V' X' y e => ?_⟩, hb, hvb⟩, by omega, fun g hg hr => ⟨(roles g hg (.inl hr)).trans hr, blk g hg (.inl hr) (fun e => by subst e; omega) (fun e => by subst e; omega)⟩⟩
  injection e with e
  injection e with e1 e2
  injection e2 with e2 e3
  subst e1 e2 e3
  exact ⟨a1.same (b6 _ (by omega) (.inr a2) v5), b2, (roles _ hVl (.inr v3)).trans v3, b3, v5, v6, v7⟩
/-- neither call has an effect upon the vaults: as the disk's calls -/
theorem disk_both {w0 W w2 : World} {D R P : Nat} {d d' : Dk} {o : Option (Nat × Nat × Va)} {k m k' m' : Nat} {r' : Rk} {ρ : Nat → Nat} (h : PR w0 D R P d o k m ρ W) (b0 : Rel d' r' k' m') (ha : Aft w0 D R d' r' ρ W w2) (hb : DBy d → DBy d') (hm : m ≤ m') : PRT w0 D R P d' o k' m' ρ W w2 := by
  obtain ⟨ρ', q1, q2, q3⟩ := ha
  obtain ⟨r, h1, h2, h3, h4, h5⟩ := h
  exact ⟨ρ', ⟨r', b0, q1, h3.move (fun g hg hr => ⟨((q3 g hg (.inr hr)).1).trans hr, (q3 g hg (.inr hr)).2⟩), hb h4, h5.up hm⟩, q2, fun g hg hr => ⟨((q3 g hg (.inl hr)).1).trans hr, (q3 g hg (.inl hr)).2⟩⟩
theorem Rel.dsz {d : Dk} {r : Rk} {k m : Nat} (h : Rel d r k m) : DSz d k m := ⟨fun f => ⟨h.z f, h.l f⟩, h.m0, h.m1⟩
theorem seqD_by : ∀ (l : List (Dk → Int × Dk)), (∀ f ∈ l, ∀ d, DBy d → DBy (f d).2) → ∀ d, DBy d → DBy (seqD l d).2
  | [], _, d, h => h
  | f :: t, hl, d, h => by
    rw [seqD]
    split
    · exact seqD_by t (fun g hg => hl g (List.mem_cons_of_mem _ hg)) _ (hl f (List.mem_cons_self ..) d h)
    · exact hl f (List.mem_cons_self ..) d h
theorem DBy.addV {d : Dk} (h : DBy d) (x : Va) (ls : List (List Int)) (hl : ∀ r ∈ ls, Bytes r) : DBy (d.addV x ls).2.1 := by
  have hs : DBy (seqD (addL x ls) d).2 := seqD_by _ (fun f hf d hd => by
    rcases List.mem_cons.1 hf with rfl | hf
    · exact hd.write _ _ (frames_bytes _ _ _ hl)
    · rcases List.mem_cons.1 hf with rfl | hf
      · exact hd.sync _
      · cases hf) d h
  unfold Dk.addV
  split
  · exact h
  · split
    · exact h
    · split
      · exact h
      · split
        · exact hs
        · exact hs
theorem comp_bytes (x : Va) (ls : List (List Int)) (hl : ∀ r ∈ ls, Bytes r) : Bytes (compS x ls) := by
  unfold compS
  exact fun b hb => (List.mem_append.1 hb).elim (head_bytes (x.gen + 1) ls.length b) (frames_bytes (x.gen + 1) ls 0 hl b)
theorem DBy.compV {d : Dk} (h : DBy d) (x : Va) (ls : List (List Int)) (hl : ∀ r ∈ ls, Bytes r) : DBy (d.compV x ls).2.1 := by
  have hs : DBy (seqD (compL x ls) d).2 := seqD_by _ (fun f hf d hd => by
    rcases List.mem_cons.1 hf with rfl | hf
    · exact hd.vcut _ _
    · rcases List.mem_cons.1 hf with rfl | hf
      · exact hd.write _ _ (comp_bytes x ls hl)
      · rcases List.mem_cons.1 hf with rfl | hf
        · exact hd.sync _
        · rcases List.mem_cons.1 hf with rfl | hf
          · exact hd.cut _ _
          · cases hf) d h
  unfold Dk.compV
  split
  · exact h
  · split
    · exact h
    · split
      · exact h
      · split
        · exact h
        · split
          · exact hs
          · exact hs
theorem DBy.begin {d : Dk} (h : DBy d) : DBy d.begin.2 := by
  unfold Dk.begin
  exact seqD_by _ (fun f hf d hd => by
    rcases List.mem_cons.1 hf with rfl | hf
    · exact hd.vcut _ _
    · rcases List.mem_cons.1 hf with rfl | hf
      · exact hd.vcut _ _
      · rcases List.mem_cons.1 hf with rfl | hf
        · exact hd.write _ _ (head_bytes 1 0)
        · rcases List.mem_cons.1 hf with rfl | hf
          · exact hd.sync _
          · cases hf) d h
theorem DBy.openV {d : Dk} (h : DBy d) : DBy d.openV.2.1 := by
  have hs : ∀ f g, DBy (seqD (openL f g) d).2 := fun f g => seqD_by _ (fun q hf d hd => by
    rcases List.mem_cons.1 hf with rfl | hf
    · exact hd.vcut _ _
    · rcases List.mem_cons.1 hf with rfl | hf
      · exact hd.sync _
      · rcases List.mem_cons.1 hf with rfl | hf
        · exact hd.vcut _ _
        · cases hf) d h
  unfold Dk.openV
  split
  · exact h
  · split
    · split
      · exact h.begin
      · exact h.begin
    · split
      · exact hs _ _
      · exact hs _ _
end Go.Proofs.YtfohemgfiidokaaGreatDoor
namespace Go.Proofs.YtfohemgfiidokaaGreatDoor
open Go.RowKit Go.Sort

theorem whole_bytes (g : Int) : ∀ (f : Nat) (k : Int) (b : List Int), Bytes b → ∀ r ∈ wholeF g f k b, Bytes r
  | 0, k, b, _ => fun r hr => by simp [wholeF] at hr
  | f + 1, k, b, hb => fun r hr => by
    rw [wholeF] at hr
    cases hn : nxt g k b with
    | none => rw [hn] at hr; simp at hr
    | some p =>
      obtain ⟨s, t⟩ := p
      rw [hn] at hr
      obtain ⟨z, h1, h2, h3, h4, h5, h6, h7⟩ := nxt_some hb hn
      rcases List.mem_cons.1 hr with rfl | hr
      · rw [h4]; exact (hb.take _).drop _
      · exact whole_bytes g f (k + 1) t (by rw [h5]; exact hb.drop _) r hr
theorem look_bytes {f : Int} {b : List Int} (hb : Bytes b) {g : Int} {ls : List (List Int)} (h : lookI f b = some (g, ls)) : ∀ r ∈ ls, Bytes r := by
  obtain ⟨-, -, h3, -⟩ := look_some h
  rw [h3]
  exact whole_bytes g _ 0 _ (hb.drop 44)
/-- what Open's vault is like -/
theorem open_bounds {d : Dk} {r : Rk} {k m : Nat} (hr : Rel d r k m) (hby : DBy d) {c : Int} {d' : Dk} {x : Va} {ls : List (List Int)} (h : d.openV = (c, d', some (x, ls))) : x.file < 2 ∧ 0 ≤ x.gen ∧ 0 ≤ x.n ∧ x.n ≤ (m : Int) ∧ ls.length ≤ m ∧ ∀ r ∈ ls, Bytes r := by
  have one : ∀ f g l, lookI ((f : Nat) : Int) (d.file f).stands = some (g, l) → 0 ≤ g ∧ l.length ≤ m ∧ ∀ r ∈ l, Bytes r := fun f g l hl => by
    have h1 := look_size (hby.stands f) hl
    have h2 := size_len2' l
    have h3 := hr.z f
    have h4 := stands_len (d.file f)
    have h5 := (look_some hl).2.2.2.1
    exact ⟨by omega, by omega, look_bytes (hby.stands f) hl⟩
  have best : ∀ f g l, bestN d 2 = some (f, g, l) → f < 2 ∧ 0 ≤ g ∧ l.length ≤ m ∧ ∀ r ∈ l, Bytes r := fun f g l hb => by
    have hb' : updI (updI none 0 (lookI ((0 : Nat) : Int) (d.file 0).stands)) 1 (lookI ((1 : Nat) : Int) (d.file 1).stands) = some (f, g, l) := hb
    have q0 := one 0
    have q1 := one 1
    generalize lookI ((0 : Nat) : Int) (d.file 0).stands = o0 at *
    generalize lookI ((1 : Nat) : Int) (d.file 1).stands = o1 at *
    have p0 : updI none 0 o0 = none ∨ ∃ g l, o0 = some (g, l) ∧ updI none 0 o0 = some (0, g, l) := by
      rcases o0 with _ | ⟨g, l⟩
      · exact .inl rfl
      · by_cases hg : genO none < g
        · exact .inr ⟨g, l, rfl, if_pos hg⟩
        · exact .inl (if_neg hg)
    have p1 : updI (updI none 0 o0) 1 o1 = updI none 0 o0 ∨ ∃ g l, o1 = some (g, l) ∧ updI (updI none 0 o0) 1 o1 = some (1, g, l) := by
      rcases o1 with _ | ⟨g, l⟩
      · exact .inl rfl
      · by_cases hg : genO (updI none 0 o0) < g
        · exact .inr ⟨g, l, rfl, if_pos hg⟩
        · exact .inl (if_neg hg)
    rcases p1 with p1 | ⟨g1, l1, e1, p1⟩
    · rw [p1] at hb'
      rcases p0 with p0 | ⟨g0, l0, e0, p0⟩
      · rw [p0] at hb'; cases hb'
      · rw [p0] at hb'; cases hb'; exact ⟨by omega, q0 _ _ e0⟩
    · rw [p1] at hb'; cases hb'; exact ⟨by omega, q1 _ _ e1⟩
  unfold Dk.openV at h
  split at h
  · cases h
  · split at h
    · split at h
      · cases h; exact ⟨by decide, by decide, by decide, by show (0 : Int) ≤ m; omega, by simp, fun r hr => by cases hr⟩
      · cases h
    · rename_i f g l hbn
      obtain ⟨b1, b2, b3, b4⟩ := best f g l hbn
      split at h
      · cases h; exact ⟨b1, b2, Int.natCast_nonneg _, Int.ofNat_le.2 b3, b3, b4⟩
      · cases h
theorem rv_open_any {w : World} {ρ : Nat → Nat} {R : Nat} {d : Dk} {r : Rk} {k m : Nat} (h : RefAt w ρ R r) (hr : Rel d r k m) (hk : k ≤ 90000) (hm : m ≤ 900000) (hby : DBy d) : Calls Tryz.prog 22 #[.pointer (some ⟨R, 0, none⟩)] w fun e w' => RO ρ R w d.openV (k + 3) (m + 44) e w' := by
  cases hoff : d.off
  · exact rv_open h hr hk hm hoff hby
  · exact rv_open_off h hr hoff _ _ (by omega) (by omega)
theorem pair_mv {w0 W w' : World} {D R : Nat} {d d' : Dk} {r : Rk} {ρ ρ' : Nat → Nat} (h : Pair w0 D R d r ρ W) (k1 : DiskAt w' ρ' w0.heap.size D d') (k2 : Mv ρ ρ' W w') : Pair w0 D R d' r ρ' w' := by
  obtain ⟨-, h2, h3, h4⟩ := h
  have hs := h4.size
  exact ⟨k1, h2.other (fun g hg h5 h7 => ⟨k2.role g hg, k2.block g hg (.inr (by omega))⟩) k1.fresh, fun g hg => (k2.role g (by omega)).trans (h3 g hg), h4.trans (k2.below fun g hg => ⟨by omega, .inl (h3 g hg)⟩)⟩
/-- the same, with a new block X that is the law's from now on -/
theorem pair_mrx {w0 W w' : World} {D R X : Nat} {d : Dk} {r r' : Rk} {ρ ρ' : Nat → Nat} (h : Pair w0 D R d r ρ W) (k1 : RefAt w' ρ' R r') (k2 : Mr ρ ρ' W w') (hX : W.heap.size ≤ X) (hX2 : X < w'.heap.size) (hX0 : ρ' X = 0) : Pair w0 D R d r' (fun g => if g = X then 4 else ρ' g) w' := by
  obtain ⟨h1, -, h3, h4⟩ := h
  have hs := h4.size
  have hf : ∀ g, w'.heap.size ≤ g → (if g = X then 4 else ρ' g) = 0 := fun g hg => by rw [if_neg (by omega)]; exact k1.fresh g hg
  refine ⟨h1.other k2.size (fun g hg h5 => ⟨?_, k2.block g hg (.inl (by omega))⟩) hf, k1.other (fun g hg h5 h7 => ⟨if_neg (fun e => by subst e; omega), rfl⟩) hf, fun g hg => ?_, h4.trans ⟨k2.os, k2.tape, k2.output, k2.size, fun g hg => k2.block g (by omega) (.inl (by rw [h3 g hg]; omega))⟩⟩
  · show (if g = X then 4 else ρ' g) = ρ g
    rw [if_neg (by omega)]; exact k2.role g hg
  · show (if g = X then 4 else ρ' g) = 0
    rw [if_neg (by omega)]; exact (k2.role g (by omega)).trans (h3 g hg)
theorem pair_mr {w0 W w' : World} {D R : Nat} {d : Dk} {r r' : Rk} {ρ ρ' : Nat → Nat} (h : Pair w0 D R d r ρ W) (k1 : RefAt w' ρ' R r') (k2 : Mr ρ ρ' W w') : Pair w0 D R d r' ρ' w' := by
  obtain ⟨h1, -, h3, h4⟩ := h
  have hs := h4.size
  exact ⟨h1.other k2.size (fun g hg h5 => ⟨k2.role g hg, k2.block g hg (.inl (by omega))⟩) k1.fresh, k1, fun g hg => (k2.role g (by omega)).trans (h3 g hg), h4.trans ⟨k2.os, k2.tape, k2.output, k2.size, fun g hg => k2.block g (by omega) (.inl (by rw [h3 g hg]; omega))⟩⟩
theorem Pair.ref {w0 w : World} {D R : Nat} {d : Dk} {r : Rk} {ρ : Nat → Nat} (h : Pair w0 D R d r ρ w) : RefAt w ρ R r := h.2.1
theorem Pair.setP {w0 w : World} {D R P : Nat} {d : Dk} {r : Rk} {ρ : Nat → Nat} (h : Pair w0 D R d r ρ w) (hP : ρ P = 4) (q : Nat) (v : Value) : Pair w0 D R d r ρ (w.setCell ⟨P, q, none⟩ v) := by
  obtain ⟨h1, h2, h3, h4⟩ := h
  have hp : w0.heap.size ≤ P := by
    rcases Nat.lt_or_ge P w0.heap.size with e | e
    · have := h3 P e; omega
    · exact e
  exact ⟨h1.setV hP q v, h2.setX hP q v, h3, h4.setCell hp v⟩
theorem PV.set2 {D R P : Nat} {o o' : Option (Nat × Nat × Va)} {ρ : Nat → Nat} {w : World} (h : PV D R P o ρ w) (hv : ∀ V X x, o' = some (V, X, x) → VaAt w V D x ∧ VaAt w X R x ∧ ρ V = 4 ∧ ρ X = 4 ∧ V ≠ X ∧ P ≠ V ∧ P ≠ X) : PV D R P o' ρ ((w.setCell ⟨P, 2, none⟩ (vpt o')).setCell ⟨P, 3, none⟩ (xpt o')) := by
  have e3 : (w.setCell ⟨P, 2, none⟩ (vpt o')).cell? ⟨P, 3, none⟩ = some (xpt o) := (set_cell (by omega)).trans h.p3
  refine ⟨h.rp, fun q => set_frozen.trans (set_frozen.trans (h.fz q)), (set_cell (by omega)).trans ((set_cell (by omega)).trans h.p0), (set_cell (by omega)).trans ((set_cell (by omega)).trans h.p1), (set_cell (by omega)).trans (set_same h.p2), set_same e3, fun V X x e => ?_⟩
  obtain ⟨h1, h2, h3, h4, h5, h6, h7⟩ := hv V X x e
  exact ⟨h1.same ((set_heap h6.symm).trans (set_heap h6.symm)), h2.same ((set_heap h7.symm).trans (set_heap h7.symm)), h3, h4, h5, h6, h7⟩
theorem RdLS.set2 {w : World} {ρ : Nat → Nat} {v : Value} {ls : List (List Int)} {P : Nat} (h : RdLS w ρ v ls) (hP : ρ P = 4) (u u' : Value) : RdL ((w.setCell ⟨P, 2, none⟩ u).setCell ⟨P, 3, none⟩ u') v ls :=
  (h.mvv (((MvV.refl ρ P w).set hP 2 u).set hP 3 u')).rdl
theorem same_nil (w : World) : Calls Tryz.prog 19 #[.slice none 0 0, .slice none 0 0] w fun e w' => e = .returned (.bool true) ∧ RowKit.Below w.heap.size w w' := by
  have := same_c (.slice none 0 0) (.slice none 0 0) [] [] w (.inl ⟨rfl, rfl⟩) (.inl ⟨rfl, rfl⟩) (fun r h => by cases h) (fun r h => by cases h) (by simp)
  rwa [decide_eq_true rfl] at this
set_option maxRecDepth 100000 in
set_option maxHeartbeats 4000000 in
theorem popen_c {w0 w : World} {D R P : Nat} {d : Dk} {o : Option (Nat × Nat × Va)} {k m : Nat} {ρ : Nat → Nat} (h : PR w0 D R P d o k m ρ w) (hk : k ≤ 80000) (hm : m ≤ 700000) (ht : KTab w0) :
    Calls Tryz.prog 8 #[.pointer (some ⟨P, 0, none⟩)] w fun e w' => e = .returned (.bool true) ∧ ∃ d' o', PRT w0 D R P d' o' (k + 3) (m + 44) ρ w w' := by
  obtain ⟨r, hr, hP, hV, hB, hvb⟩ := h
  have htw := ht.below hP.2.2.2 ht.lt
  have hr0 : ρ 0 = 0 := hP.2.2.1 _ ht.lt
  have ko := open_all hP.1 hr.dsz hB (by omega) (by omega) htw hr0
  have kr := fun w1 ρ1 (a : RefAt w1 ρ1 R r) => rv_open_any a hr (by omega) (by omega) hB
  have hob := hB.openV
  have p0 := hV.p0
  have hPl := hV.lt
  have HP := Lib.hid hP
  have HV := Lib.hid hV
  rcases hq : d.openV with ⟨c, d', _ | ⟨x, ls⟩⟩
  · rw [hq] at ko hob
    simp only [hq] at kr
    have KO := Lib.hid ko
    have KR := Lib.hid kr
    have HOB := Lib.hid hob
    clear ko kr hr hP hV hB hvb htw hr0 hq hob
    go_enter Tryz.func8, Tryz.ntmps8
    go_wp2_with (first
      | (go_at_call 11; go_loud ((with_reducible refine KO.out.mono ?_); rintro e w1 ⟨rfl, ρ1, k1, m1⟩; have P1 := pair_mv HP.out k1 m1; have v1 := HV.out.move (ρ' := ρ1) (fun g hg hr => ⟨(m1.role g hg).trans hr, m1.block g hg (.inr (by omega))⟩); have c11 := v1.p1))
      | (go_at_call 22; go_loud ((with_reducible refine (KR.out _ _ P1.ref).mono ?_); rintro e w2 ⟨rfl, r2, ρ2, rl2, a2, m2⟩; have P2 := pair_mr P1 a2 m2; have v2 := v1.move (ρ' := ρ2) (fun g hg hr => ⟨(m2.role g hg).trans hr, m2.block g hg (.inl (by omega))⟩); have z22 := v2.fz 2; have z23 := v2.fz 3; have c22 := v2.p2; have c23 := v2.p3))
      | (go_at_call 19; go_loud ((with_reducible refine (same_nil _).mono ?_); rintro e w5 ⟨rfl, b5⟩))
      | fail)
    go_ret
    refine ⟨rfl, d', none, PRT.keep ⟨ρ2, ⟨r2, rl2, (P2.setP v2.rp 2 _).setP v2.rp 3 _, v2.set2 (o' := none) (fun V X x e => by cases e), HOB.out, fun V X x e => by cases e⟩, ?_, fun g hg hr => ?_⟩ b5⟩
    · have s1 := m1.size
      have s2 := m2.size
      rw [set_size, set_size]; omega
    · have s1 := m1.size
      have hr1 := (m1.role g hg).trans hr
      have hne : P ≠ g := fun e => by have := HV.out.rp; rw [e, hr] at this; cases this
      exact ⟨(m2.role g (by omega)).trans hr1, (set_heap hne.symm).trans ((set_heap hne.symm).trans ((m2.block g (by omega) (.inl (by omega))).trans (m1.block g hg (.inl hr))))⟩
  · obtain ⟨q1, q2, q3, q4, q5, q6⟩ := open_bounds hr hB hq
    have hsame := fun W v u (hv : RdL W v ls) (hu : RdL W u ls) => same_c v u ls ls W hv hu q6 q6 (by omega)
    simp only [decide_true] at hsame
    have hvb' : ∀ V X, VB (some (V, X, x)) (m + 44) := fun V X V' X' y e => by
      injection e with e
      injection e with e1 e2
      injection e2 with e2 e3
      subst e3
      exact ⟨q1, q2, q3, by omega⟩
    rw [hq] at ko hob
    simp only [hq] at kr
    have KO := Lib.hid ko
    have KR := Lib.hid kr
    have HOB := Lib.hid hob
    have HVB := Lib.hid hvb'
    have HSM := Lib.hid hsame
    clear ko kr hr hP hV hB hvb htw hr0 hq hob hvb' q1 q2 q3 q4 q5 q6 hsame
    go_enter Tryz.func8, Tryz.ntmps8
    go_wp2_with (first
      | (go_at_call 11; go_loud ((with_reducible refine KO.out.mono ?_); rintro e w1 ⟨V, rv, rfl, hVl, ρ1, vd1, m1, rd1⟩; have P1 := pair_mv HP.out vd1.disk m1; have v1 := HV.out.move (ρ' := ρ1) (fun g hg hr => ⟨(m1.role g hg).trans hr, m1.block g hg (.inr (by omega))⟩); have c11 := v1.p1))
      | (go_at_call 22; go_loud ((with_reducible refine (KR.out _ _ P1.ref).mono ?_); rintro e w2 ⟨X, rx, rfl, hXl, va2, r2, ρ2, rl2, a2, m2, x2, rd2⟩; have P2 := pair_mrx P1 a2 m2 hXl va2.lt x2; have rd1 := rd1.mr m2; have rp2 : ρ2 P = 4 := (m2.role P v1.lt).trans v1.rp; have v2 := v1.move (ρ' := fun g => if g = X then 4 else ρ2 g) (fun g hg hr => ⟨(if_neg (by omega)).trans ((m2.role g hg).trans hr), m2.block g hg (.inl (by omega))⟩); have vv2 : VaAt w2 V D x := vd1.va.same (m2.block V vd1.va.lt (.inl (by rw [vd1.role]; omega))); have rV2 : ρ2 V = 4 := (m2.role V vd1.va.lt).trans vd1.role; have z22 := v2.fz 2; have z23 := v2.fz 3; have c22 := v2.p2; have c23 := v2.p3))
      | (go_at_call 19; go_loud ((with_reducible refine (HSM.out _ _ _ (rd1.set2 rp2 _ _) (rd2.set2 rp2 _ _)).mono ?_); rintro e w5 ⟨rfl, b5⟩))
      | fail)
    go_ret
    have s1 := m1.size
    have s2 := m2.size
    have hVl1 := vd1.va.lt
    refine ⟨rfl, d', some (V, X, x), PRT.keep ⟨fun g => if g = X then 4 else ρ2 g, ⟨r2, rl2, (P2.setP v2.rp 2 _).setP v2.rp 3 _, v2.set2 (o' := some (V, X, x)) (fun V' X' y e => ?_), HOB.out, HVB.out V X⟩, ?_, fun g hg hr => ?_⟩ b5⟩
    · injection e with e
      injection e with e1 e2
      injection e2 with e2 e3
      subst e1 e2 e3
      exact ⟨vv2, va2, (if_neg (by omega)).trans rV2, if_pos rfl, by omega, by omega, by omega⟩
    · rw [set_size, set_size]; omega
    · have hr1 := (m1.role g hg).trans hr
      have hne : P ≠ g := fun e => by have := HV.out.rp; rw [e, hr] at this; cases this
      exact ⟨(if_neg (by omega)).trans ((m2.role g (by omega)).trans hr1), (set_heap hne.symm).trans ((set_heap hne.symm).trans ((m2.block g (by omega) (.inl (by omega))).trans (m1.block g hg (.inl hr))))⟩
end Go.Proofs.YtfohemgfiidokaaGreatDoor
namespace Go.Proofs.YtfohemgfiidokaaGreatDoor
open Go.RowKit Go.Sort

set_option maxRecDepth 100000 in
set_option maxHeartbeats 4000000 in
theorem palike_c {w0 w : World} {D R P : Nat} {d : Dk} {o : Option (Nat × Nat × Va)} {k m : Nat} {ρ : Nat → Nat} (h : PR w0 D R P d o k m ρ w) (hk : k ≤ 90000) (hm : m ≤ 90000) :
    Calls Tryz.prog 9 #[.pointer (some ⟨P, 0, none⟩)] w fun e w' => e = .returned (.bool true) ∧ Below w.heap.size w w' := by
  obtain ⟨r, hr, hP, hV, hB, hvb⟩ := h
  have ok := (hr.ok (by omega) (by omega)).1
  have hro := fun W (hb : Below w.heap.size w W) => vroom_c (hP.keep hb).1 ok
  have hrr := fun W (hb : Below w.heap.size w W) => rv_room (hP.keep hb).ref hr (by omega) (by omega)
  have hrd := fun (F : Int) => op_read (w0 := w0) (D := D) (R := R) hr (by omega) (by omega) F
  have hne : (roomF d != roomF d) = false := by simp
  generalize roomF d = z at *
  have HRO := Lib.hid hro
  have HRR := Lib.hid hrr
  have HRD := Lib.hid hrd
  have HP := Lib.hid hP
  have HV := Lib.hid hV
  have hPl := hV.lt
  have HKC := Lib.hid (fun (W : World) (hb : Below w.heap.size w W) (q : Nat) => show W.cell? ⟨P, q, none⟩ = w.cell? ⟨P, q, none⟩ from hb.cell hPl)
  have p0 := hV.p0
  have p1 := hV.p1
  have hbd := (Below.refl w.heap.size w).drew
  have p0d : w.drew.cell? ⟨P, 0, none⟩ = some (.pointer (some ⟨D, 0, none⟩)) := p0
  have p1d : w.drew.cell? ⟨P, 1, none⟩ = some (.pointer (some ⟨R, 0, none⟩)) := p1
  clear hr hP hV hB hvb ok hro hrr hrd
  go_enter Tryz.func9, Tryz.ntmps9
  go_upto_region 1 with fail
  go_region_held3 (fun W => W.cell? ⟨P, 0, none⟩ = some (.pointer (some ⟨D, 0, none⟩)) ∧ W.cell? ⟨P, 1, none⟩ = some (.pointer (some ⟨R, 0, none⟩))) (first | exact ⟨p0d, p1d⟩ | exact ⟨q0, q1⟩ | exact ⟨s0, s1⟩ | fail) (first
    | (go_at_call 16; (with_reducible refine (HRO.out _ hbd).mono ?_); rintro e w1 ⟨rfl, b1⟩; have b1 := bel_call hbd b1; have q0 := (HKC.out _ b1 0).trans p0; have q1 := (HKC.out _ b1 1).trans p1)
    | (go_at_call 23; (with_reducible refine (HRR.out _ b1).mono ?_); rintro e w2 ⟨rfl, n, rfl⟩; have b2 := bel_call b1 (below_drewN w1 n); have s0 := (HKC.out _ b2 0).trans p0; have s1 := (HKC.out _ b2 1).trans p1)
    | fail)
  all_goals go_upto_region 4 with fail
  all_goals (refine wp_gen (fun W => Below w.heap.size w W) b2 ?_; rintro W hbW)
  all_goals clear b1 b2 q0 q1 s0 s1
  go_loopw [3] (fun i wr => ∃ q : Nat, q ≤ 2 ∧ i = .int .i64 q ∧ Below w.heap.size w wr) (fun i _ => 2 - (intOf i).toNat)
  case atStart => exact ⟨0, by omega, rfl, hbW⟩
  case round =>
    obtain ⟨q, hq, rfl, hb⟩ := hrel
    by_cases hlt : q < 2
    · obtain ⟨c, T, k1, k2⟩ := HRD.out q
      have K1 := Lib.hid k1
      have K2 := Lib.hid k2
      have HB := Lib.hid hb
      have r0 := (HKC.out _ hb 0).trans p0
      have hcc : (c != c) = false := by simp
      clear k1 k2 hb
      go_wp2_with (first
        | (go_at_call 24; go_loud ((with_reducible refine (K1.out _ ρ (HP.out.keep HB.out)).mono ?_); rintro e w3 ⟨p3, n3, c3, rfl, t3, b3⟩; have HT3 := Lib.hid t3; have b3 := bel_call HB.out b3; have r1 := (HKC.out _ b3 1).trans p1; clear t3))
        | (go_at_call 25; go_loud ((with_reducible refine (K2.out _ ρ (HP.out.keep b3)).mono ?_); rintro e w4 ⟨p4, n4, c4, rfl, t4, b4⟩; have cv3 := HT3.out _ b4; have cv4 := t4 _ (Below.refl _ _); have b4 := bel_call b3 b4; clear t4))
        | fail)
      exact ⟨⟨q + 1, by omega, by go_num, b4⟩, by simp [intOf]; omega⟩
    · obtain rfl : q = 2 := by omega
      refine wp_gen (fun W => Below w.heap.size w W) hb ?_
      clear hb
      rintro W2 hb2
      have t3 := (HKC.out _ hb2 3).trans HV.out.p3
      rcases o with _ | ⟨V, X, x⟩
      · have r3 : W2.cell? ⟨P, 3, none⟩ = some (.pointer none) := t3
        clear t3
        go_upto_region 10 with fail
        go_quiet (fail)
        go_wp2
        go_ret
        exact ⟨rfl, bel_call hb2 (below_drewN W2 _)⟩
      · have r3 : W2.cell? ⟨P, 3, none⟩ = some (.pointer (some ⟨X, 0, none⟩)) := t3
        clear t3
        have r2 : W2.cell? ⟨P, 2, none⟩ = some (.pointer (some ⟨V, 0, none⟩)) := (HKC.out _ hb2 2).trans HV.out.p2
        have v2 := HV.out.keep hb2
        obtain ⟨va, xa, -⟩ := v2.v V X x rfl
        have x2 := xa.gen
        have x3 := xa.n
        have VA := Lib.hid (fun n => va.keep (below_drewN W2 n))
        clear v2 va xa
        go_upto_region 10 with fail
        go_quiet (first
          | (go_at_call 12; exact Calls.quiet_of_same (gen_c (VA.out _)))
          | (go_at_call 13; exact Calls.quiet_of_same (len_c (VA.out _))))
        go_wp2
        go_ret
        exact ⟨rfl, bel_call hb2 (below_drewN W2 _)⟩
end Go.Proofs.YtfohemgfiidokaaGreatDoor
