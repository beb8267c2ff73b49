/- (*Disk).Sync and its closure. -/
import Derived.Test.YtfohemgfiidokaaDg
namespace Go.Proofs.Ytfohemgfiidokaa
open Go.RowKit Go.Sort

/-- the world behind a file's settling -/
def Settled (w : World) (D f : Nat) (xs : List Int) (w' : World) : Prop := ∃ v' w1, RowO w1 w.heap.size v' xs ∧ Below w.heap.size w w1 ∧ w' = (w1.setCell ⟨D, 2 * f, none⟩ v').setCell ⟨D, 2 * f + 1, none⟩ (.slice none 0 0)

theorem settle_at {w : World} {ρ : Nat → Nat} {B D f : Nat} {F : Fil} (h : FilAt w ρ B D f F) (hs : Small F) (hz : ∀ o, w.frozen? ⟨D, o, none⟩ = false) (u : Int) (hu : -9223372036854775808 ≤ u) (hu' : u ≤ 9223372036854775807) :
    Calls Try.prog 36 #[.pointer (some ⟨D, 2 * f, none⟩), .int .i64 u] w fun e w' => e = .returned undef ∧ Settled w D f (keptF F.s u F.l) w' := by
  obtain ⟨sv, lv, h1, h2, h3, h4⟩ := h
  exact (settle_c D (2 * f) sv lv F.s F.l u w h1 h2 (hz _) (hz _) h3.rdb h4.at (by have := hs.1; omega) hs.2 hu hu').mono fun e w' ⟨v', w1, he, hr, hb, hw⟩ => ⟨he, v', w1, hr, hb, hw⟩

set_option maxRecDepth 100000 in
theorem sync1_c {w : World} {ρ : Nat → Nat} {B D f : Nat} {F : Fil} (bd bf : Nat) (h : FilAt w ρ B D f F) (hs : Small F) (hz : ∀ o, w.frozen? ⟨D, o, none⟩ = false) (hf : f < 2) (cd : w.cell? ⟨bd, 0, none⟩ = some (.pointer (some ⟨D, 0, none⟩))) (cf : w.cell? ⟨bf, 0, none⟩ = some (.int .i64 f)) :
    Calls Try.prog 35 #[.pointer (some ⟨bd, 0, none⟩), .pointer (some ⟨bf, 0, none⟩)] w fun e w' => e = .returned undef ∧ Settled w.drew D f F.stands w' := by
  have ks := settle_at (w := w.drew) (ρ := ρ) (B := B) h hs hz 9223372036854775807 (by omega) (by omega)
  rw [Nat.mul_comm 2 f] at ks
  have f0 : (0 : Int) ≤ f := by omega
  have f1 : (f : Int) < 2 := by omega
  go_enter Try.func35, Try.ntmps35
  go_region_with (go_at_call 36; with_reducible refine ks.mono ?_; rintro e w1 ⟨rfl, hS⟩)
  all_goals (go_wp2_with fail)
  all_goals go_end0
  all_goals exact ⟨rfl, hS⟩
def Dk.file (d : Dk) : Nat → Fil
  | 0 => d.f0
  | _ => d.f1
def Dk.setFile (d : Dk) (f : Nat) (F : Fil) : Dk := match f with
  | 0 => { d with f0 := F }
  | _ => { d with f1 := F }
theorem DiskAt.file {w : World} {ρ : Nat → Nat} {B D : Nat} {d : Dk} (h : DiskAt w ρ B D d) (f : Nat) (hf : f < 2) : FilAt w ρ B D f (d.file f) := by
  rcases f with _ | _ | f
  · exact h.f0
  · exact h.f1
  · omega
theorem below_set {B : Nat} {a w : World} (h : Below B a w) {D o : Nat} (hD : B ≤ D) (v : Value) : Below B a (w.setCell ⟨D, o, none⟩ v) := h.setCell hD v
/-- the disk's own blocks alone are turned; each block keeps its role -/
structure Mv (ρ ρ' : Nat → Nat) (w w' : World) : Prop where
  os : w'.os = w.os
  tape : w'.tape = w.tape
  output : w'.output = w.output
  size : w.heap.size ≤ w'.heap.size
  role : ∀ g, g < w.heap.size → ρ' g = ρ g
  block : ∀ g, g < w.heap.size → ρ g = 0 ∨ 3 < ρ g → w'.heap[g]? = w.heap[g]?
theorem Mv.refl (ρ : Nat → Nat) (w : World) : Mv ρ ρ w w := ⟨rfl, rfl, rfl, Nat.le_refl _, fun _ _ => rfl, fun _ _ _ => rfl⟩
theorem Mv.trans {ρ ρ' ρ'' : Nat → Nat} {w w' w'' : World} (h : Mv ρ ρ' w w') (k : Mv ρ' ρ'' w' w'') : Mv ρ ρ'' w w'' :=
  ⟨k.os.trans h.os, k.tape.trans h.tape, k.output.trans h.output, Nat.le_trans h.size k.size, fun g hg => (k.role g (Nat.lt_of_lt_of_le hg h.size)).trans (h.role g hg),
    fun g hg hr => (k.block g (Nat.lt_of_lt_of_le hg h.size) (by rw [h.role g hg]; exact hr)).trans (h.block g hg hr)⟩
theorem Mv.ofBelow (ρ : Nat → Nat) {w w' : World} (h : Below w.heap.size w w') : Mv ρ ρ w w' := ⟨h.os, h.tape, h.output, h.size, fun _ _ => rfl, fun g hg _ => h.block g hg⟩
theorem Mv.drew (ρ : Nat → Nat) (w : World) : Mv ρ ρ w w.drew := Mv.ofBelow ρ (RowKit.Below.refl _ w).drew
theorem Mv.set {ρ ρ' : Nat → Nat} {w w' : World} {D : Nat} (h : Mv ρ ρ' w w') (hD : ρ' D = 1) (o : Nat) (v : Value) : Mv ρ ρ' w (w'.setCell ⟨D, o, none⟩ v) := by
  have b : RowKit.Below 0 w' (w'.setCell ⟨D, o, none⟩ v) := (RowKit.Below.refl 0 w').setCell (Nat.zero_le _) v
  refine ⟨b.os.trans h.os, b.tape.trans h.tape, b.output.trans h.output, Nat.le_trans h.size b.size, h.role, fun g hg hr => ?_⟩
  rw [set_heap]
  · exact h.block g hg hr
  · intro e
    have := h.role g hg
    subst e
    omega
theorem Mv.below {ρ ρ' : Nat → Nat} {w w' : World} {B : Nat} (h : Mv ρ ρ' w w') (hB : ∀ g, g < B → g < w.heap.size ∧ (ρ g = 0 ∨ 3 < ρ g)) : Below B w w' := ⟨h.os, h.tape, h.output, h.size, fun k hk => h.block k (hB k hk).1 (hB k hk).2⟩
theorem DiskAt.settled {w w' : World} {ρ : Nat → Nat} {B D f : Nat} {d : Dk} {xs : List Int} (h : DiskAt w ρ B D d) (hf : f < 2) (hS : Settled w D f xs w') : DiskAt w' ρ B D (d.setFile f ⟨xs, []⟩) ∧ Mv ρ ρ w w' := by
  obtain ⟨v', w1, hr, hb, rfl⟩ := hS
  have h1 := h.keep hb
  have hB := h.base
  have hlt := h.lt
  refine ⟨?_, ((Mv.ofBelow ρ hb).set h.role _ _).set h.role _ _⟩
  have hfr : ∀ k, w.heap.size ≤ k → ρ k = 0 := h.fresh
  have hc : ∀ o, o ≠ 2 * f → o ≠ 2 * f + 1 → ((w1.setCell ⟨D, 2 * f, none⟩ v').setCell ⟨D, 2 * f + 1, none⟩ (.slice none 0 0)).cell? ⟨D, o, none⟩ = w1.cell? ⟨D, o, none⟩ := fun o a b => by rw [set_cell b, set_cell a]
  obtain ⟨sv, lv, c0, c1, -, -⟩ := h1.file f hf
  have hnew := settled_fil (f := f) (B := B) hr hfr h.role c0 c1
  have hz : ∀ o, ((w1.setCell ⟨D, 2 * f, none⟩ v').setCell ⟨D, 2 * f + 1, none⟩ (.slice none 0 0)).frozen? ⟨D, o, none⟩ = false := fun o => by rw [set_frozen, set_frozen]; exact h1.fz o
  have hfresh : ∀ k, ((w1.setCell ⟨D, 2 * f, none⟩ v').setCell ⟨D, 2 * f + 1, none⟩ (.slice none 0 0)).heap.size ≤ k → ρ k = 0 := fun k hk => h1.fresh k (by rwa [set_size, set_size] at hk)
  rcases f with _ | _ | f
  · exact ⟨hB, h.role, hfresh, hnew, filAt_set (filAt_set h1.f1 h.role (by omega) (by omega)) h.role (by omega) (by omega), (hc _ (by omega) (by omega)).trans h1.most, (hc _ (by omega) (by omega)).trans h1.off, (hc _ (by omega) (by omega)).trans h1.fused, (hc _ (by omega) (by omega)).trans h1.left, hz⟩
  · exact ⟨hB, h.role, hfresh, filAt_set (filAt_set h1.f0 h.role (by omega) (by omega)) h.role (by omega) (by omega), hnew, (hc _ (by omega) (by omega)).trans h1.most, (hc _ (by omega) (by omega)).trans h1.off, (hc _ (by omega) (by omega)).trans h1.fused, (hc _ (by omega) (by omega)).trans h1.left, hz⟩
  · omega

/-- a disk's call of a file that is done: one call less is left -/
def Dk.tick (d : Dk) : Dk := { d with left := IntKind.i64.wrap (d.left - 1) }
theorem below_up {B : Nat} {a w w' : World} (h : Below B a w) (hb : Below w.heap.size w w') (hB : B ≤ w.heap.size) : Below B a w' := h.trans ⟨hb.os, hb.tape, hb.output, hb.size, fun k hk => hb.block k (by omega)⟩

set_option maxRecDepth 100000 in
theorem sync_at {w : World} {ρ : Nat → Nat} {B D : Nat} {d : Dk} (h : DiskAt w ρ B D d) (f : Nat) (hf : f < 2) (hs : Small (d.file f)) (hoff : d.off = false) (hb : (d.fused && d.left == 0) = false) :
    Calls Try.prog 15 #[.pointer (some ⟨D, 0, none⟩), .int .i64 f] w fun e w' => e = .returned (.int .i64 0) ∧ DiskAt w' ρ B D (d.tick.setFile f ⟨(d.file f).stands, []⟩) ∧ Mv ρ ρ w w' := by
  generalize hlf : IntKind.i64.wrap (d.left - 1) = lf
  have htk : d.tick = { d with left := lf } := by rw [← hlf]; rfl
  rw [htk]
  have hlt := h.lt
  have hB := h.base
  have hmf : ∀ (fn : Fn) (first cap : Array Value) (w : World), (Instr.makeFunc fn first cap).run Try.prog w = .ok (.func fn first cap) w := fun _ _ _ _ => rfl
  generalize hW : (w.alloc (.cells #[.pointer (some ⟨D, 0, none⟩)] 25)).alloc (.cells #[.int .i64 f] 3) = W
  have hbW : Below w.heap.size w W := by rw [← hW]; exact bel_alloc (bel_alloc (Below.refl _ _) _) _
  have cd : W.cell? ⟨w.heap.size, 0, none⟩ = some (.pointer (some ⟨D, 0, none⟩)) := by rw [← hW]; simp [go_sem]
  have cf : W.cell? ⟨w.heap.size + 1, 0, none⟩ = some (.int .i64 f) := by rw [← hW]; simp [go_sem]
  have hd := h.keep hbW
  have km := may_c D d.off f W hd.off
  rw [hoff, show mayv false f = 0 by unfold mayv; rw [if_neg (by simp), if_neg (by omega)]] at km
  have hd2 := hd.setLeft (lf)
  have k1 := sync1_c (w := W.setCell ⟨D, 7, none⟩ (.int .i64 (lf))) w.heap.size (w.heap.size + 1) (hd2.file f hf) (by rcases f with _ | f <;> exact hs) hd2.fz hf
    ((World.cell?_of_block (set_heap (show w.heap.size ≠ D by omega))).trans cd) ((World.cell?_of_block (set_heap (show w.heap.size + 1 ≠ D by omega))).trans cf)
  have kg := goes_35 hd (.pointer (some ⟨w.heap.size, 0, none⟩)) (.pointer (some ⟨w.heap.size + 1, 0, none⟩)) _ lf hlf hb k1
  clear k1 hoff hlf htk
  go_enter Try.func15, Try.ntmps15
  go_wp2_with (first | (go_at_call 33; with_reducible refine km.mono ?_; rintro e w1 ⟨rfl, rfl⟩) | (go_at_call 34; with_reducible refine kg.mono ?_; rintro e w2 ⟨rfl, hS⟩))
  go_ret
  have hd3 := hd2.keep (w' := _) ((Below.refl _ _).drew)
  obtain ⟨r1, r2⟩ := hd3.settled hf hS
  have ef : Dk.file { d with left := lf } f = d.file f := by rcases f with _ | f <;> rfl
  rw [ef] at r1
  exact ⟨rfl, r1, ((Mv.ofBelow ρ hbW).set h.role 7 _).trans ((Mv.drew ρ _).trans r2)⟩
end Go.Proofs.Ytfohemgfiidokaa
