/- (*Disk).goes: what a call of a file does, unless the power goes. (*Disk).Sync and its closure. append to a row of one's own: where the new row lies. A change is put behind a file's loose ones. -/
import Derived.Test.YtfohemgfiidokaaGreatDoorMa
import Derived.Deep.RegionLaw
namespace Go.Proofs.YtfohemgfiidokaaGreatDoor
open Go.RowKit Go.Sort

set_option maxRecDepth 100000 in
theorem goes_35 {w : World} {ρ : Nat → Nat} {B D : Nat} {d : Dk} (h : DiskAt w ρ B D d) (x y : Value) (K : World → Prop) (lf : Int) (g1 : IntKind.i64.wrap (d.left - 1) = lf) (hb : (d.fused && d.left == 0) = false)
    (hk : Calls Tryz.prog 77 #[x, y] (w.setCell ⟨D, 7, none⟩ (.int .i64 lf)) fun e w' => e = .returned undef ∧ K w') :
    Calls Tryz.prog 76 #[.pointer (some ⟨D, 0, none⟩), .func (.func 77) #[] #[x, y]] w fun e w' => e = .returned (.int .i64 0) ∧ K w' := by
  have c6 := h.fused
  have c7 := h.left
  have z7 := h.fz 7
  generalize hf : d.fused = fu at c6 hb
  cases fu
  · go_enter Tryz.func76, Tryz.ntmps76
    go_wp2_with (go_at_call 77; with_reducible refine hk.mono ?_; rintro e w1 ⟨rfl, hK⟩)
    go_ret
    exact ⟨rfl, hK⟩
  · have hz : (d.left == 0) = false := by simpa using hb
    go_enter Tryz.func76, Tryz.ntmps76
    go_wp2_with (go_at_call 77; with_reducible refine hk.mono ?_; rintro e w1 ⟨rfl, hK⟩)
    go_ret
    exact ⟨rfl, hK⟩
set_option maxRecDepth 100000 in
theorem goes_burns_35 {w : World} {ρ : Nat → Nat} {B D : Nat} {d : Dk} (h : DiskAt w ρ B D d) (x y : Value) (hf : d.fused = true) (hl : d.left = 0) :
    Calls Tryz.prog 76 #[.pointer (some ⟨D, 0, none⟩), .func (.func 77) #[] #[x, y]] w fun e w' => e = .returned (.int .i64 8) ∧ w' = w.setCell ⟨D, 5, none⟩ (.bool true) := by
  have c5 := h.off
  have c6 := h.fused
  have c7 := h.left
  have z5 := h.fz 5
  rw [hf] at c6
  rw [hl] at c7
  clear hf hl
  go_enter Tryz.func76, Tryz.ntmps76
  go_wp2
  go_ret
  exact ⟨rfl, rfl⟩

set_option maxRecDepth 100000 in
theorem goes_37 {w : World} {ρ : Nat → Nat} {B D : Nat} {d : Dk} (h : DiskAt w ρ B D d) (x y z : Value) (K : World → Prop) (lf : Int) (g1 : IntKind.i64.wrap (d.left - 1) = lf) (hb : (d.fused && d.left == 0) = false)
    (hk : Calls Tryz.prog 82 #[x, y, z] (w.setCell ⟨D, 7, none⟩ (.int .i64 lf)) fun e w' => e = .returned undef ∧ K w') :
    Calls Tryz.prog 76 #[.pointer (some ⟨D, 0, none⟩), .func (.func 82) #[] #[x, y, z]] w fun e w' => e = .returned (.int .i64 0) ∧ K w' := by
  have c6 := h.fused
  have c7 := h.left
  have z7 := h.fz 7
  generalize hf : d.fused = fu at c6 hb
  cases fu
  · go_enter Tryz.func76, Tryz.ntmps76
    go_wp2_with (go_at_call 82; with_reducible refine hk.mono ?_; rintro e w1 ⟨rfl, hK⟩)
    go_ret
    exact ⟨rfl, hK⟩
  · have hz : (d.left == 0) = false := by simpa using hb
    go_enter Tryz.func76, Tryz.ntmps76
    go_wp2_with (go_at_call 82; with_reducible refine hk.mono ?_; rintro e w1 ⟨rfl, hK⟩)
    go_ret
    exact ⟨rfl, hK⟩
set_option maxRecDepth 100000 in
theorem goes_burns_37 {w : World} {ρ : Nat → Nat} {B D : Nat} {d : Dk} (h : DiskAt w ρ B D d) (x y z : Value) (hf : d.fused = true) (hl : d.left = 0) :
    Calls Tryz.prog 76 #[.pointer (some ⟨D, 0, none⟩), .func (.func 82) #[] #[x, y, z]] w fun e w' => e = .returned (.int .i64 8) ∧ w' = w.setCell ⟨D, 5, none⟩ (.bool true) := by
  have c5 := h.off
  have c6 := h.fused
  have c7 := h.left
  have z5 := h.fz 5
  rw [hf] at c6
  rw [hl] at c7
  clear hf hl
  go_enter Tryz.func76, Tryz.ntmps76
  go_wp2
  go_ret
  exact ⟨rfl, rfl⟩

set_option maxRecDepth 100000 in
theorem goes_39 {w : World} {ρ : Nat → Nat} {B D : Nat} {d : Dk} (h : DiskAt w ρ B D d) (x y z : Value) (K : World → Prop) (lf : Int) (g1 : IntKind.i64.wrap (d.left - 1) = lf) (hb : (d.fused && d.left == 0) = false)
    (hk : Calls Tryz.prog 85 #[x, y, z] (w.setCell ⟨D, 7, none⟩ (.int .i64 lf)) fun e w' => e = .returned undef ∧ K w') :
    Calls Tryz.prog 76 #[.pointer (some ⟨D, 0, none⟩), .func (.func 85) #[] #[x, y, z]] w fun e w' => e = .returned (.int .i64 0) ∧ K w' := by
  have c6 := h.fused
  have c7 := h.left
  have z7 := h.fz 7
  generalize hf : d.fused = fu at c6 hb
  cases fu
  · go_enter Tryz.func76, Tryz.ntmps76
    go_wp2_with (go_at_call 85; with_reducible refine hk.mono ?_; rintro e w1 ⟨rfl, hK⟩)
    go_ret
    exact ⟨rfl, hK⟩
  · have hz : (d.left == 0) = false := by simpa using hb
    go_enter Tryz.func76, Tryz.ntmps76
    go_wp2_with (go_at_call 85; with_reducible refine hk.mono ?_; rintro e w1 ⟨rfl, hK⟩)
    go_ret
    exact ⟨rfl, hK⟩
set_option maxRecDepth 100000 in
theorem goes_burns_39 {w : World} {ρ : Nat → Nat} {B D : Nat} {d : Dk} (h : DiskAt w ρ B D d) (x y z : Value) (hf : d.fused = true) (hl : d.left = 0) :
    Calls Tryz.prog 76 #[.pointer (some ⟨D, 0, none⟩), .func (.func 85) #[] #[x, y, z]] w fun e w' => e = .returned (.int .i64 8) ∧ w' = w.setCell ⟨D, 5, none⟩ (.bool true) := by
  have c5 := h.off
  have c6 := h.fused
  have c7 := h.left
  have z5 := h.fz 5
  rw [hf] at c6
  rw [hl] at c7
  clear hf hl
  go_enter Tryz.func76, Tryz.ntmps76
  go_wp2
  go_ret
  exact ⟨rfl, rfl⟩
end Go.Proofs.YtfohemgfiidokaaGreatDoor
namespace Go.Proofs.YtfohemgfiidokaaGreatDoor
open Go.RowKit Go.Sort

/-- the world behind a file's settling -/
def Settled (w : World) (D f : Nat) (xs : List Int) (w' : World) : Prop := ∃ v' w1, RowO w1 w.heap.size v' xs ∧ Below w.heap.size w w1 ∧ w' = (w1.setCell ⟨D, 2 * f, none⟩ v').setCell ⟨D, 2 * f + 1, none⟩ (.slice none 0 0)

theorem settle_at {w : World} {ρ : Nat → Nat} {B D f : Nat} {F : Fil} (h : FilAt w ρ B D f F) (hs : Small F) (hz : ∀ o, w.frozen? ⟨D, o, none⟩ = false) (u : Int) (hu : -9223372036854775808 ≤ u) (hu' : u ≤ 9223372036854775807) :
    Calls Tryz.prog 46 #[.pointer (some ⟨D, 2 * f, none⟩), .int .i64 u] w fun e w' => e = .returned undef ∧ Settled w D f (keptF F.s u F.l) w' := by
  obtain ⟨sv, lv, h1, h2, h3, h4⟩ := h
  exact (settle_c D (2 * f) sv lv F.s F.l u w h1 h2 (hz _) (hz _) h3.rdb h4.at (by have := hs.1; omega) hs.2 hu hu').mono fun e w' ⟨v', w1, he, hr, hb, hw⟩ => ⟨he, v', w1, hr, hb, hw⟩

set_option maxRecDepth 100000 in
theorem sync1_c {w : World} {ρ : Nat → Nat} {B D f : Nat} {F : Fil} (bd bf : Nat) (h : FilAt w ρ B D f F) (hs : Small F) (hz : ∀ o, w.frozen? ⟨D, o, none⟩ = false) (hf : f < 2) (cd : w.cell? ⟨bd, 0, none⟩ = some (.pointer (some ⟨D, 0, none⟩))) (cf : w.cell? ⟨bf, 0, none⟩ = some (.int .i64 f)) :
    Calls Tryz.prog 77 #[.pointer (some ⟨bd, 0, none⟩), .pointer (some ⟨bf, 0, none⟩)] w fun e w' => e = .returned undef ∧ Settled w.drew D f F.stands w' := by
  have ks := settle_at (w := w.drew) (ρ := ρ) (B := B) h hs hz 9223372036854775807 (by omega) (by omega)
  rw [Nat.mul_comm 2 f] at ks
  have f0 : (0 : Int) ≤ f := by omega
  have f1 : (f : Int) < 2 := by omega
  go_enter Tryz.func77, Tryz.ntmps77
  go_region_with (go_at_call 46; with_reducible refine ks.mono ?_; rintro e w1 ⟨rfl, hS⟩)
  all_goals (go_wp2_with fail)
  all_goals go_end0
  all_goals exact ⟨rfl, hS⟩
def Dk.file (d : Dk) : Nat → Fil
  | 0 => d.f0
  | _ => d.f1
def Dk.setFile (d : Dk) (f : Nat) (F : Fil) : Dk := match f with
  | 0 => { d with f0 := F }
  | _ => { d with f1 := F }
theorem DiskAt.file {w : World} {ρ : Nat → Nat} {B D : Nat} {d : Dk} (h : DiskAt w ρ B D d) (f : Nat) (hf : f < 2) : FilAt w ρ B D f (d.file f) := by
  rcases f with _ | _ | f
  · exact h.f0
  · exact h.f1
  · omega
theorem below_set {B : Nat} {a w : World} (h : Below B a w) {D o : Nat} (hD : B ≤ D) (v : Value) : Below B a (w.setCell ⟨D, o, none⟩ v) := h.setCell hD v
/-- the disk's own blocks alone are turned; each block keeps its role -/
structure Mv (ρ ρ' : Nat → Nat) (w w' : World) : Prop where
  os : w'.os = w.os
  tape : w'.tape = w.tape
  output : w'.output = w.output
  size : w.heap.size ≤ w'.heap.size
  role : ∀ g, g < w.heap.size → ρ' g = ρ g
  block : ∀ g, g < w.heap.size → ρ g = 0 ∨ 3 < ρ g → w'.heap[g]? = w.heap[g]?
theorem Mv.refl (ρ : Nat → Nat) (w : World) : Mv ρ ρ w w := ⟨rfl, rfl, rfl, Nat.le_refl _, fun _ _ => rfl, fun _ _ _ => rfl⟩
theorem Mv.trans {ρ ρ' ρ'' : Nat → Nat} {w w' w'' : World} (h : Mv ρ ρ' w w') (k : Mv ρ' ρ'' w' w'') : Mv ρ ρ'' w w'' :=
  ⟨k.os.trans h.os, k.tape.trans h.tape, k.output.trans h.output, Nat.le_trans h.size k.size, fun g hg => (k.role g (Nat.lt_of_lt_of_le hg h.size)).trans (h.role g hg),
    fun g hg hr => (k.block g (Nat.lt_of_lt_of_le hg h.size) (by rw [h.role g hg]; exact hr)).trans (h.block g hg hr)⟩
theorem Mv.ofBelow (ρ : Nat → Nat) {w w' : World} (h : Below w.heap.size w w') : Mv ρ ρ w w' := ⟨h.os, h.tape, h.output, h.size, fun _ _ => rfl, fun g hg _ => h.block g hg⟩
theorem Mv.drew (ρ : Nat → Nat) (w : World) : Mv ρ ρ w w.drew := Mv.ofBelow ρ (RowKit.Below.refl _ w).drew
theorem Mv.set {ρ ρ' : Nat → Nat} {w w' : World} {D : Nat} (h : Mv ρ ρ' w w') (hD : ρ' D = 1) (o : Nat) (v : Value) : Mv ρ ρ' w (w'.setCell ⟨D, o, none⟩ v) := by
  have b : RowKit.Below 0 w' (w'.setCell ⟨D, o, none⟩ v) := (RowKit.Below.refl 0 w').setCell (Nat.zero_le _) v
  refine ⟨b.os.trans h.os, b.tape.trans h.tape, b.output.trans h.output, Nat.le_trans h.size b.size, h.role, fun g hg hr => ?_⟩
  rw [set_heap]
  · exact h.block g hg hr
  · intro e
    have := h.role g hg
    subst e
    omega
theorem Mv.below {ρ ρ' : Nat → Nat} {w w' : World} {B : Nat} (h : Mv ρ ρ' w w') (hB : ∀ g, g < B → g < w.heap.size ∧ (ρ g = 0 ∨ 3 < ρ g)) : Below B w w' := ⟨h.os, h.tape, h.output, h.size, fun k hk => h.block k (hB k hk).1 (hB k hk).2⟩
theorem DiskAt.settled {w w' : World} {ρ : Nat → Nat} {B D f : Nat} {d : Dk} {xs : List Int} (h : DiskAt w ρ B D d) (hf : f < 2) (hS : Settled w D f xs w') : DiskAt w' ρ B D (d.setFile f ⟨xs, []⟩) ∧ Mv ρ ρ w w' := by
  obtain ⟨v', w1, hr, hb, rfl⟩ := hS
  have h1 := h.keep hb
  have hB := h.base
  have hlt := h.lt
  refine ⟨?_, ((Mv.ofBelow ρ hb).set h.role _ _).set h.role _ _⟩
  have hfr : ∀ k, w.heap.size ≤ k → ρ k = 0 := h.fresh
  have hc : ∀ o, o ≠ 2 * f → o ≠ 2 * f + 1 → ((w1.setCell ⟨D, 2 * f, none⟩ v').setCell ⟨D, 2 * f + 1, none⟩ (.slice none 0 0)).cell? ⟨D, o, none⟩ = w1.cell? ⟨D, o, none⟩ := fun o a b => by rw [set_cell b, set_cell a]
  obtain ⟨sv, lv, c0, c1, -, -⟩ := h1.file f hf
  have hnew := settled_fil (f := f) (B := B) hr hfr h.role c0 c1
  have hz : ∀ o, ((w1.setCell ⟨D, 2 * f, none⟩ v').setCell ⟨D, 2 * f + 1, none⟩ (.slice none 0 0)).frozen? ⟨D, o, none⟩ = false := fun o => by rw [set_frozen, set_frozen]; exact h1.fz o
  have hfresh : ∀ k, ((w1.setCell ⟨D, 2 * f, none⟩ v').setCell ⟨D, 2 * f + 1, none⟩ (.slice none 0 0)).heap.size ≤ k → ρ k = 0 := fun k hk => h1.fresh k (by rwa [set_size, set_size] at hk)
  rcases f with _ | _ | f
  · exact ⟨hB, h.role, hfresh, hnew, filAt_set (filAt_set h1.f1 h.role (by omega) (by omega)) h.role (by omega) (by omega), (hc _ (by omega) (by omega)).trans h1.most, (hc _ (by omega) (by omega)).trans h1.off, (hc _ (by omega) (by omega)).trans h1.fused, (hc _ (by omega) (by omega)).trans h1.left, hz⟩
  · exact ⟨hB, h.role, hfresh, filAt_set (filAt_set h1.f0 h.role (by omega) (by omega)) h.role (by omega) (by omega), hnew, (hc _ (by omega) (by omega)).trans h1.most, (hc _ (by omega) (by omega)).trans h1.off, (hc _ (by omega) (by omega)).trans h1.fused, (hc _ (by omega) (by omega)).trans h1.left, hz⟩
  · omega

/-- a disk's call of a file that is done: one call less is left -/
def Dk.tick (d : Dk) : Dk := { d with left := IntKind.i64.wrap (d.left - 1) }
theorem below_up {B : Nat} {a w w' : World} (h : Below B a w) (hb : Below w.heap.size w w') (hB : B ≤ w.heap.size) : Below B a w' := h.trans ⟨hb.os, hb.tape, hb.output, hb.size, fun k hk => hb.block k (by omega)⟩

set_option maxRecDepth 100000 in
theorem sync_at {w : World} {ρ : Nat → Nat} {B D : Nat} {d : Dk} (h : DiskAt w ρ B D d) (f : Nat) (hf : f < 2) (hs : Small (d.file f)) (hoff : d.off = false) (hb : (d.fused && d.left == 0) = false) :
    Calls Tryz.prog 35 #[.pointer (some ⟨D, 0, none⟩), .int .i64 f] w fun e w' => e = .returned (.int .i64 0) ∧ DiskAt w' ρ B D (d.tick.setFile f ⟨(d.file f).stands, []⟩) ∧ Mv ρ ρ w w' := by
  generalize hlf : IntKind.i64.wrap (d.left - 1) = lf
  have htk : d.tick = { d with left := lf } := by rw [← hlf]; rfl
  rw [htk]
  have hlt := h.lt
  have hB := h.base
  have hmf : ∀ (fn : Fn) (first cap : Array Value) (w : World), (Instr.makeFunc fn first cap).run Tryz.prog w = .ok (.func fn first cap) w := fun _ _ _ _ => rfl
  generalize hW : (w.alloc (.cells #[.pointer (some ⟨D, 0, none⟩)] 26)).alloc (.cells #[.int .i64 f] 3) = W
  have hbW : Below w.heap.size w W := by rw [← hW]; exact bel_alloc (bel_alloc (Below.refl _ _) _) _
  have cd : W.cell? ⟨w.heap.size, 0, none⟩ = some (.pointer (some ⟨D, 0, none⟩)) := by rw [← hW]; simp [go_sem]
  have cf : W.cell? ⟨w.heap.size + 1, 0, none⟩ = some (.int .i64 f) := by rw [← hW]; simp [go_sem]
  have hd := h.keep hbW
  have km := may_c D d.off f W hd.off
  rw [hoff, show mayv false f = 0 by unfold mayv; rw [if_neg (by simp), if_neg (by omega)]] at km
  have hd2 := hd.setLeft (lf)
  have k1 := sync1_c (w := W.setCell ⟨D, 7, none⟩ (.int .i64 (lf))) w.heap.size (w.heap.size + 1) (hd2.file f hf) (by rcases f with _ | f <;> exact hs) hd2.fz hf
    ((World.cell?_of_block (set_heap (show w.heap.size ≠ D by omega))).trans cd) ((World.cell?_of_block (set_heap (show w.heap.size + 1 ≠ D by omega))).trans cf)
  have kg := goes_35 hd (.pointer (some ⟨w.heap.size, 0, none⟩)) (.pointer (some ⟨w.heap.size + 1, 0, none⟩)) _ lf hlf hb k1
  clear k1 hoff hlf htk
  go_enter Tryz.func35, Tryz.ntmps35
  go_wp2_with (first | (go_at_call 45; with_reducible refine km.mono ?_; rintro e w1 ⟨rfl, rfl⟩) | (go_at_call 76; with_reducible refine kg.mono ?_; rintro e w2 ⟨rfl, hS⟩))
  go_ret
  have hd3 := hd2.keep (w' := _) ((Below.refl _ _).drew)
  obtain ⟨r1, r2⟩ := hd3.settled hf hS
  have ef : Dk.file { d with left := lf } f = d.file f := by rcases f with _ | f <;> rfl
  rw [ef] at r1
  exact ⟨rfl, r1, ((Mv.ofBelow ρ hbW).set h.role 7 _).trans ((Mv.drew ρ _).trans r2)⟩
end Go.Proofs.YtfohemgfiidokaaGreatDoor
namespace Go.Proofs.YtfohemgfiidokaaGreatDoor
open Go.RowKit Go.Sort

theorem run_append_fresh {P : Program} (w : World) (base : Nat) (t ty e : TypeId) (i : TypeInfo) (z : Value) (size bytes : Nat) (ht : P.underlying t = some (.slice e)) (hi : P.info? e = some i) (hz : i.zero = some z)
    (hsize : i.size = size) (hby : i.bytes = bytes) (hzs : z.cells.size = size) (hsz : 0 < size)
    (v : Value) (n : Nat) (xs : List Value) (hown : w.ownsRow base e size v n xs)
    (a : Addr) (m c : Nat) (news : List Value) (hl : news.length = m * size) (hnews : ∀ j u, news[j]? = some u → w.cell? (a.add j) = some u) (h1 : ∀ u ∈ news, u.oneCell' = true)
    (h63 : n + m ≤ maxLen) (hbytes : (n + m) * bytes ≤ 140737488355328) (hbase : base ≤ w.heap.size) :
    ∃ v' w', (Builtin.append_ #[t, t] ty #[v, .slice (some a) m c]).run P w = .ok v' w' ∧ w'.ownsRow base e size v' (n + m) (xs ++ news) ∧ w.grownBy w' v.ownBlock ∧ (∀ g, v'.ownBlock = some g → v.ownBlock = some g ∨ g = w.heap.size) := by
  obtain ⟨v', w', hr, h2, h3, h4⟩ := run_append_own w base t ty e i z size bytes ht hi hz hsize hby hzs hsz v n xs hown a m c news hl hnews h1 h63 hbytes hbase
  refine ⟨v', w', hr, h2, h3, fun g hg => ?_⟩
  subst hsize
  subst hby
  have hsmall : n + m ≤ 9223372036854775807 := by simp only [maxLen] at h63; omega
  rcases hown.2 with ⟨rfl, rfl⟩ | ⟨g1, cap, cur, rfl, hbg, hgc, hnc, hcm, hcs, htake⟩
  · by_cases hm : m = 0
    · have := h4.2 ⟨rfl, hm⟩
      subst this
      simp [Value.ownBlock] at hg
    · have hr2 := run_append_nil (P := P) w t ty e i z ht hi hz a m c news hl hnews (by omega) (by omega) (by have hb := hbytes; simp only [Nat.zero_add] at hb; omega)
      rw [hr] at hr2
      injection hr2 with e1 e2
      subst e1
      simp [Value.ownBlock] at hg
      exact .inr hg.symm
  · by_cases hroom : n + m ≤ cap
    · have hfit : n * i.size + news.length ≤ cur.size := by rw [hl, hcs, ← Nat.add_mul]; exact Nat.mul_le_mul_right _ hroom
      have hr2 := run_append_room (P := P) w t ty e i ht hi g1 n cap cur hgc a m c news hl hnews h1 hroom hfit
      rw [hr] at hr2
      injection hr2 with e1 e2
      subst e1
      left
      simpa [Value.ownBlock] using hg
    · have holds : ∀ j u, xs[j]? = some u → w.cell? ((⟨g1, 0, none⟩ : Addr).add j) = some u := hown.cells (g := g1) rfl
      have hr2 := run_append_grow (P := P) w t ty e i z ht hi hz ⟨g1, 0, none⟩ n cap xs hown.1 holds a m c news hl hnews (by omega) (by omega) (growslice_fits (by omega) hbytes)
      rw [hr] at hr2
      injection hr2 with e1 e2
      subst e1
      simp [Value.ownBlock] at hg
      exact .inr hg.symm
theorem wp_append_fresh {P : Program} {w : World} {o : Oper} {a : Act} {K : Act → World → Prop} {Q : Exit → Act → World → Prop} (s x : Operand) (t : TypeId)
    (ho : o.op = .call { callee := .builtin .append, args := #[s, x], argTypes := #[t, t] })
    (base : Nat) (e : TypeId) (i : TypeInfo) (z : Value) (size bytes : Nat) (ht : P.underlying t = some (.slice e)) (hi : P.info? e = some i) (hz : i.zero = some z)
    (hsize : i.size = size) (hby : i.bytes = bytes) (hzs : z.cells.size = size) (hsz : 0 < size)
    (v : Value) (n : Nat) (xs : List Value) (hs : a.eval s = v) (hown : w.ownsRow base e size v n xs)
    (ad : Addr) (m c : Nat) (news : List Value) (hx : a.eval x = .slice (some ad) m c) (hl : news.length = m * size) (hnews : ∀ j u, news[j]? = some u → w.cell? (ad.add j) = some u) (h1 : ∀ u ∈ news, u.oneCell' = true)
    (h63 : n + m ≤ maxLen) (hbytes : (n + m) * bytes ≤ 140737488355328) (hbase : base ≤ w.heap.size)
    (h : ∀ v' w', w'.ownsRow base e size v' (n + m) (xs ++ news) → w.grownBy w' v.ownBlock → (∀ g, v'.ownBlock = some g → v.ownBlock = some g ∨ g = w.heap.size) → K (a.put o.dst v') w') : o.wp P a w K Q := by
  obtain ⟨v', w', hr, h2, h3, h4⟩ := run_append_fresh (P := P) w base t o.type e i z size bytes ht hi hz hsize hby hzs hsz v n xs hown ad m c news hl hnews h1 h63 hbytes hbase
  unfold Oper.wp execOp
  simp only [ho, resolve, invoke, builtin, Sem.run_bind, Sem.run_pure, Result.andThen_ok, List.map_toArray, List.map_cons, List.map_nil, hs, hx, hr]
  exact h v' w' h2 h3 h4
end Go.Proofs.YtfohemgfiidokaaGreatDoor
namespace Go.Proofs.YtfohemgfiidokaaGreatDoor
open Go.RowKit Go.Sort

theorem Tryz.info141 : (Tryz.prog.info? 141).map (fun i => (i.zero, i.size, i.bytes)) = some (some .nilIface, 1, 16) := by kernel_rfl

theorem RdR.move {w w' : World} {ρ ρ' : Nat → Nat} {v : Value} {xs : List Int} (h : RdR w ρ v xs) (hs : w.heap.size ≤ w'.heap.size) (hk : ∀ g, g < w.heap.size → ρ g = 0 → ρ' g = 0 ∧ w'.heap[g]? = w.heap[g]?) : RdR w' ρ' v xs := by
  rcases h with h | ⟨g, cap, h1, h2, h3, h4, h5⟩
  · exact .inl h
  · exact .inr ⟨g, cap, h1, h2, (hk g h4 h3).1, by omega, fun j hj => by rw [World.cell?_of_block (hk g h4 h3).2]; exact h5 j hj⟩
theorem ChgR.move {w w' : World} {ρ ρ' : Nat → Nat} {u : Value} {c : Chg} (h : ChgR w ρ u c) (hs : w.heap.size ≤ w'.heap.size) (hk : ∀ g, g < w.heap.size → ρ g = 0 → ρ' g = 0 ∧ w'.heap[g]? = w.heap[g]?) : ChgR w' ρ' u c := by
  cases c with
  | wr c => obtain ⟨cv, h1, h2⟩ := h; exact ⟨cv, h1, h2.move hs hk⟩
  | ct n => exact h
theorem FilAt.move {w w' : World} {ρ ρ' : Nat → Nat} {B D f : Nat} {F : Fil} (h : FilAt w ρ B D f F) (hs : w.heap.size ≤ w'.heap.size) (hk : ∀ g, g < w.heap.size → ρ g = 0 ∨ ρ g = 2 + f → ρ' g = ρ g ∧ w'.heap[g]? = w.heap[g]?)
    (hc : w'.cell? ⟨D, 2 * f, none⟩ = w.cell? ⟨D, 2 * f, none⟩) (hc1 : w'.cell? ⟨D, 2 * f + 1, none⟩ = w.cell? ⟨D, 2 * f + 1, none⟩) : FilAt w' ρ' B D f F := by
  obtain ⟨sv, lv, h1, h2, h3, us, k1, k2, k3⟩ := h
  have hk0 : ∀ g, g < w.heap.size → ρ g = 0 → ρ' g = 0 ∧ w'.heap[g]? = w.heap[g]? := fun g hl hg => let ⟨a, b⟩ := hk g hl (.inl hg); ⟨a.trans hg, b⟩
  refine ⟨sv, lv, hc.trans h1, hc1.trans h2, h3.move hs hk0, us, own_other k1 fun g hg => (hk g (own_lt k1 hg) (.inr (k2 g hg))).2, fun g hg => ?_, fun j hj => ?_⟩
  · rw [(hk g (own_lt k1 hg) (.inr (k2 g hg))).1]; exact k2 g hg
  · obtain ⟨u, h4, h5⟩ := k3 j hj
    exact ⟨u, h4, h5.move hs hk0⟩

/-- one more loose change of file f: its row stands where it stood, or in a new block -/
theorem DiskAt.appended {W w1 : World} {ρ : Nat → Nat} {B D f : Nat} {d : Dk} {sv lv v' u : Value} {us : List Value} {c : Chg} (h : DiskAt W ρ B D d) (hf : f < 2)
    (c0 : W.cell? ⟨D, 2 * f, none⟩ = some sv) (c1 : W.cell? ⟨D, 2 * f + 1, none⟩ = some lv) (hs : RdR W ρ sv (d.file f).s)
    (hrole : ∀ g, lv.ownBlock = some g → ρ g = 2 + f) (hch : ∀ j (h : j < (d.file f).l.length), ∃ u, us[j]? = some u ∧ ChgR W ρ u (d.file f).l[j]) (hus : us.length = (d.file f).l.length)
    (hu : ChgR W ρ u c) (hown : w1.ownsRow B 141 1 v' ((d.file f).l.length + 1) (us ++ [u])) (hg : W.grownBy w1 lv.ownBlock) (hfr : ∀ g, v'.ownBlock = some g → lv.ownBlock = some g ∨ g = W.heap.size) :
    ∃ ρ', DiskAt (w1.setCell ⟨D, 2 * f + 1, none⟩ v') ρ' B D (d.setFile f ⟨(d.file f).s, (d.file f).l ++ [c]⟩) ∧ Mv ρ ρ' W (w1.setCell ⟨D, 2 * f + 1, none⟩ v') := by
  have hlt := h.lt
  have hB := h.base
  have hsz := hg.size
  let ρ' : Nat → Nat := fun k => if v'.ownBlock = some k then 2 + f else ρ k
  have hρ : ∀ g, g < W.heap.size → ρ g ≠ 2 + f → ρ' g = ρ g := fun g hgl hne => by
    show (if v'.ownBlock = some g then 2 + f else ρ g) = ρ g
    rw [if_neg]
    intro e
    rcases hfr g e with e | e
    · exact hne (hrole g e)
    · omega
  have hheap : ∀ g, g < W.heap.size → ρ g ≠ 2 + f → g ≠ D → (w1.setCell ⟨D, 2 * f + 1, none⟩ v').heap[g]? = W.heap[g]? := fun g hgl hne hD => by
    rw [set_heap hD]
    exact hg.block g hgl fun e => hne (hrole g e.symm)
  have hDw : w1.heap[D]? = W.heap[D]? := hg.block D hlt fun e => by have := hrole D e.symm; have := h.role; omega
  have hcell : ∀ o, o ≠ 2 * f + 1 → (w1.setCell ⟨D, 2 * f + 1, none⟩ v').cell? ⟨D, o, none⟩ = W.cell? ⟨D, o, none⟩ := fun o ho => (set_cell ho).trans (World.cell?_of_block hDw)
  have hfz : ∀ o, (w1.setCell ⟨D, 2 * f + 1, none⟩ v').frozen? ⟨D, o, none⟩ = false := fun o => by rw [set_frozen, World.frozen?_of_block hDw]; exact h.fz o
  have hsize : W.heap.size ≤ (w1.setCell ⟨D, 2 * f + 1, none⟩ v').heap.size := by rw [set_size]; exact hsz
  have hroleD : ρ' D = 1 := by rw [hρ D hlt (by have := h.role; omega)]; exact h.role
  have hfresh : ∀ k, (w1.setCell ⟨D, 2 * f + 1, none⟩ v').heap.size ≤ k → ρ' k = 0 := fun k hk => by
    rw [set_size] at hk
    show (if v'.ownBlock = some k then 2 + f else ρ k) = 0
    rw [if_neg (fun e => by have := own_lt hown e; omega)]
    exact h.fresh k (by omega)
  have hk0 : ∀ g, g < W.heap.size → ρ g = 0 → ρ' g = 0 ∧ (w1.setCell ⟨D, 2 * f + 1, none⟩ v').heap[g]? = W.heap[g]? := fun g hgl he => ⟨by rw [hρ g hgl (by omega)]; exact he, hheap g hgl (by omega) (fun e => by subst e; have := h.role; omega)⟩
  have hnew : FilAt (w1.setCell ⟨D, 2 * f + 1, none⟩ v') ρ' B D f ⟨(d.file f).s, (d.file f).l ++ [c]⟩ := by
    refine ⟨sv, v', (hcell _ (by omega)).trans c0, set_same ((World.cell?_of_block hDw).trans c1), ?_, us ++ [u], ?_, ?_, ?_⟩
    · exact hs.move hsize hk0
    · have e : (⟨(d.file f).s, (d.file f).l ++ [c]⟩ : Fil).l.length = (d.file f).l.length + 1 := by simp
      rw [e]
      exact own_other hown fun g hgb => set_heap fun e => by
        subst e
        rcases hfr g hgb with e | e
        · have := hrole g e; have := h.role; omega
        · omega
    · intro g hgb
      show (if v'.ownBlock = some g then 2 + f else ρ g) = 2 + f
      rw [if_pos hgb]
    · intro j hj
      have hj' : j < (d.file f).l.length + 1 := by simpa using hj
      by_cases hjl : j < (d.file f).l.length
      · obtain ⟨u2, e1, e2⟩ := hch j hjl
        refine ⟨u2, by rw [List.getElem?_append_left (by omega)]; exact e1, ?_⟩
        have e3 : (⟨(d.file f).s, (d.file f).l ++ [c]⟩ : Fil).l[j]'hj = (d.file f).l[j] := List.getElem_append_left hjl
        rw [e3]
        exact e2.move hsize hk0
      · have : j = (d.file f).l.length := by omega
        subst this
        refine ⟨u, by rw [List.getElem?_append_right (by omega)]; simp [hus], ?_⟩
        have e3 : (⟨(d.file f).s, (d.file f).l ++ [c]⟩ : Fil).l[(d.file f).l.length]'hj = c := by simp
        rw [e3]
        exact hu.move hsize hk0
  have hoth : ∀ f2, f2 < 2 → f2 ≠ f → FilAt (w1.setCell ⟨D, 2 * f + 1, none⟩ v') ρ' B D f2 (d.file f2) := fun f2 hf2 hne =>
    (h.file f2 hf2).move hsize (fun g hgl hg => ⟨hρ g hgl (by omega), hheap g hgl (by omega) (fun e => by subst e; have := h.role; omega)⟩) (hcell _ (by omega)) (hcell _ (by omega))
  have b1 : RowKit.Below 0 W w1 := (RowKit.Below.refl 0 W).grown hg (Nat.zero_le _) fun _ _ => Nat.zero_le _
  have hmv : Mv ρ ρ' W w1 := by
    refine ⟨b1.os, b1.tape, b1.output, b1.size, fun g hgl => ?_, fun g hgl hr => hg.block g hgl fun e => by have := hrole g e.symm; omega⟩
    show (if v'.ownBlock = some g then 2 + f else ρ g) = ρ g
    split
    · rename_i e
      rcases hfr g e with e | e
      · exact (hrole g e).symm
      · omega
    · rfl
  refine ⟨ρ', ?_, hmv.set hroleD _ _⟩
  rcases f with _ | _ | f
  · exact ⟨hB, hroleD, hfresh, hnew, hoth 1 (by omega) (by omega), (hcell _ (by omega)).trans h.most, (hcell _ (by omega)).trans h.off, (hcell _ (by omega)).trans h.fused, (hcell _ (by omega)).trans h.left, hfz⟩
  · exact ⟨hB, hroleD, hfresh, hoth 0 (by omega) (by omega), hnew, (hcell _ (by omega)).trans h.most, (hcell _ (by omega)).trans h.off, (hcell _ (by omega)).trans h.fused, (hcell _ (by omega)).trans h.left, hfz⟩
  · omega
end Go.Proofs.YtfohemgfiidokaaGreatDoor
