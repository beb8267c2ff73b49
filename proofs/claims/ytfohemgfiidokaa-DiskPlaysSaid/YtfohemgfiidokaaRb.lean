/- The document's disk in memory (roles 5; 6, 7: its rows), and its quiet methods. -/
import Derived.Test.YtfohemgfiidokaaRa
import Derived.Deep.RegionWith
namespace Go.Proofs.Ytfohemgfiidokaa
open Go.RowKit Go.Sort diskKeeps

structure Rk where
  f0 : Fil
  f1 : Fil
  most : Int
  left : Int
  power : Bool
def Rk.file (d : Rk) : Nat → Fil
  | 0 => d.f0
  | _ => d.f1
def Rk.setFile (d : Rk) (f : Nat) (F : Fil) : Rk := match f with
  | 0 => { d with f0 := F }
  | _ => { d with f1 := F }
def RLo (w : World) (ρ : Nat → Nat) (r : Nat) (v : Value) (l : List Chg) : Prop := NonNeg l ∧ w.ownsRow 0 83 3 v l.length (rcells l) ∧ ∀ g, v.ownBlock = some g → ρ g = r
def RFil (w : World) (ρ : Nat → Nat) (R f : Nat) (F : Fil) : Prop := ∃ lv, w.cell? ⟨R, 2 * f, none⟩ = some (.string (strOfNums F.s)) ∧ w.cell? ⟨R, 2 * f + 1, none⟩ = some lv ∧ RLo w ρ (6 + f) lv F.l
structure RefAt (w : World) (ρ : Nat → Nat) (R : Nat) (d : Rk) : Prop where
  role : ρ R = 5
  fresh : ∀ k, w.heap.size ≤ k → ρ k = 0
  f0 : RFil w ρ R 0 d.f0
  f1 : RFil w ρ R 1 d.f1
  most : w.cell? ⟨R, 4, none⟩ = some (.int .i64 d.most)
  left : w.cell? ⟨R, 5, none⟩ = some (.int .i64 d.left)
  power : w.cell? ⟨R, 6, none⟩ = some (.bool d.power)
  fz : ∀ o, w.frozen? ⟨R, o, none⟩ = false
theorem RLo.loose {w : World} {ρ : Nat → Nat} {r : Nat} {v : Value} {l : List Chg} (h : RLo w ρ r v l) : RLoose w v l := by
  obtain ⟨h1, h2, h3⟩ := h
  rcases h2.2 with ⟨e1, e2⟩ | ⟨g, cap, cur, e1, -⟩
  · exact ⟨none, 0, by rw [e1, e2], h1, fun j hj => by omega⟩
  · refine ⟨_, cap, e1, h1, fun j hj => ⟨g, rfl, fun k hk => ?_⟩⟩
    subst e1
    rw [h2.cellAt (j * 3 + k) (by omega)]
    exact rcells_get l j hj k hk
theorem RefAt.file {w : World} {ρ : Nat → Nat} {R : Nat} {d : Rk} (h : RefAt w ρ R d) (f : Nat) (hf : f < 2) : RFil w ρ R f (d.file f) := by
  rcases f with _ | _ | f
  · exact h.f0
  · exact h.f1
  · omega
theorem RefAt.lt {w : World} {ρ : Nat → Nat} {R : Nat} {d : Rk} (h : RefAt w ρ R d) : R < w.heap.size := block_lt_of_cell h.most
theorem RFil.other {w w' : World} {ρ ρ' : Nat → Nat} {R f : Nat} {F : Fil} (h : RFil w ρ R f F) (hk : ∀ g, g < w.heap.size → ρ g = 6 + f → ρ' g = ρ g ∧ w'.heap[g]? = w.heap[g]?)
    (hc : w'.cell? ⟨R, 2 * f, none⟩ = w.cell? ⟨R, 2 * f, none⟩) (hc1 : w'.cell? ⟨R, 2 * f + 1, none⟩ = w.cell? ⟨R, 2 * f + 1, none⟩) : RFil w' ρ' R f F := by
  obtain ⟨lv, h1, h2, h3, h4, h5⟩ := h
  exact ⟨lv, hc.trans h1, hc1.trans h2, h3, own_other h4 fun g hg => (hk g (own_lt h4 hg) (h5 g hg)).2, fun g hg => ((hk g (own_lt h4 hg) (h5 g hg)).1).trans (h5 g hg)⟩
theorem RefAt.other {w w' : World} {ρ ρ' : Nat → Nat} {R : Nat} {d : Rk} (h : RefAt w ρ R d) (hk : ∀ g, g < w.heap.size → 5 ≤ ρ g → ρ g ≤ 7 → ρ' g = ρ g ∧ w'.heap[g]? = w.heap[g]?) (hf : ∀ k, w'.heap.size ≤ k → ρ' k = 0) : RefAt w' ρ' R d := by
  have hD := h.lt
  have hr := h.role
  have hc : ∀ o, w'.cell? ⟨R, o, none⟩ = w.cell? ⟨R, o, none⟩ := fun o => World.cell?_of_block (hk R hD (by omega) (by omega)).2
  exact ⟨(hk R hD (by omega) (by omega)).1.trans hr, hf, h.f0.other (fun g hl hg => hk g hl (by omega) (by omega)) (hc _) (hc _), h.f1.other (fun g hl hg => hk g hl (by omega) (by omega)) (hc _) (hc _),
    (hc _).trans h.most, (hc _).trans h.left, (hc _).trans h.power, fun o => (World.frozen?_of_block (hk R hD (by omega) (by omega)).2).trans (h.fz o)⟩
theorem RefAt.keep {w w' : World} {ρ : Nat → Nat} {R : Nat} {d : Rk} (h : RefAt w ρ R d) (hb : Below w.heap.size w w') : RefAt w' ρ R d :=
  h.other (fun g hg _ _ => ⟨rfl, hb.block g hg⟩) fun k hk => h.fresh k (Nat.le_trans hb.size hk)
theorem rfil_set {w : World} {ρ : Nat → Nat} {R f o : Nat} {F : Fil} {v : Value} (h : RFil w ρ R f F) (hr : ρ R = 5) (h0 : 2 * f ≠ o) (h1 : 2 * f + 1 ≠ o) : RFil (w.setCell ⟨R, o, none⟩ v) ρ R f F :=
  h.other (fun g _ hg => ⟨rfl, set_heap fun e => by subst e; omega⟩) (set_cell h0) (set_cell h1)
theorem RefAt.setLeft {w : World} {ρ : Nat → Nat} {R : Nat} {d : Rk} (h : RefAt w ρ R d) (n : Int) : RefAt (w.setCell ⟨R, 5, none⟩ (.int .i64 n)) ρ R { d with left := n } :=
  ⟨h.role, fun k hk => h.fresh k (by rwa [set_size] at hk), rfil_set h.f0 h.role (by omega) (by omega), rfil_set h.f1 h.role (by omega) (by omega), (set_cell (by omega)).trans h.most, set_same h.left, (set_cell (by omega)).trans h.power, fun o => set_frozen.trans (h.fz o)⟩
theorem RefAt.setPower {w : World} {ρ : Nat → Nat} {R : Nat} {d : Rk} (h : RefAt w ρ R d) (b : Bool) : RefAt (w.setCell ⟨R, 6, none⟩ (.bool b)) ρ R { d with power := b } :=
  ⟨h.role, fun k hk => h.fresh k (by rwa [set_size] at hk), rfil_set h.f0 h.role (by omega) (by omega), rfil_set h.f1 h.role (by omega) (by omega), (set_cell (by omega)).trans h.most, (set_cell (by omega)).trans h.left, set_same h.power, fun o => set_frozen.trans (h.fz o)⟩

/-- the document's disk's own blocks alone are turned; each block keeps its role -/
structure Mr (ρ ρ' : Nat → Nat) (w w' : World) : Prop where
  os : w'.os = w.os
  tape : w'.tape = w.tape
  output : w'.output = w.output
  size : w.heap.size ≤ w'.heap.size
  role : ∀ g, g < w.heap.size → ρ' g = ρ g
  block : ∀ g, g < w.heap.size → ρ g < 5 ∨ 7 < ρ g → w'.heap[g]? = w.heap[g]?
theorem Mr.refl (ρ : Nat → Nat) (w : World) : Mr ρ ρ w w := ⟨rfl, rfl, rfl, Nat.le_refl _, fun _ _ => rfl, fun _ _ _ => rfl⟩
theorem Mr.trans {ρ ρ' ρ'' : Nat → Nat} {w w' w'' : World} (h : Mr ρ ρ' w w') (k : Mr ρ' ρ'' w' w'') : Mr ρ ρ'' w w'' :=
  ⟨k.os.trans h.os, k.tape.trans h.tape, k.output.trans h.output, Nat.le_trans h.size k.size, fun g hg => (k.role g (Nat.lt_of_lt_of_le hg h.size)).trans (h.role g hg),
    fun g hg hr => (k.block g (Nat.lt_of_lt_of_le hg h.size) (by rw [h.role g hg]; exact hr)).trans (h.block g hg hr)⟩
theorem Mr.ofBelow (ρ : Nat → Nat) {w w' : World} (h : Below w.heap.size w w') : Mr ρ ρ w w' := ⟨h.os, h.tape, h.output, h.size, fun _ _ => rfl, fun g hg _ => h.block g hg⟩
theorem Mr.set {ρ ρ' : Nat → Nat} {w w' : World} {R : Nat} (h : Mr ρ ρ' w w') (hR : ρ' R = 5) (o : Nat) (v : Value) : Mr ρ ρ' w (w'.setCell ⟨R, o, none⟩ v) := by
  have b : RowKit.Below 0 w' (w'.setCell ⟨R, o, none⟩ v) := (RowKit.Below.refl 0 w').setCell (Nat.zero_le _) v
  refine ⟨b.os.trans h.os, b.tape.trans h.tape, b.output.trans h.output, Nat.le_trans h.size b.size, h.role, fun g hg hr => ?_⟩
  rw [set_heap]
  · exact h.block g hg hr
  · intro e
    have := h.role g hg
    subst e
    omega
def RLeft (ρ : Nat → Nat) (R : Nat) (w : World) (d : Rk) (w' : World) : Prop := ∃ ρ', RefAt w' ρ' R d ∧ Mr ρ ρ' w w'

def rmay (power : Bool) (f : Int) : Int := if power = false then 8 else if f < 0 ∨ 1 < f then 1 else 0
theorem rmay_c {w : World} {ρ : Nat → Nat} {R : Nat} {d : Rk} (h : RefAt w ρ R d) (f : Int) : Calls Try.prog 40 #[.pointer (some ⟨R, 0, none⟩), .int .i64 f] w fun e w' => e = .returned (.int .i64 (rmay d.power f)) ∧ w' = w := by
  have c := h.power
  generalize d.power = p at c
  unfold rmay
  cases p
  · go_enter Try.func40, Try.ntmps40
    go_wp2
    go_ret
    exact ⟨rfl, rfl⟩
  · by_cases h0 : f < 0
    · go_enter Try.func40, Try.ntmps40
      go_wp2
      go_ret
      exact ⟨by simp, rfl⟩
    · by_cases h1 : 1 < f
      · go_enter Try.func40, Try.ntmps40
        go_wp2
        go_ret
        exact ⟨by simp, rfl⟩
      · go_enter Try.func40, Try.ntmps40
        go_wp2
        go_ret
        exact ⟨by simp, rfl⟩
def Rk.burn (d : Rk) : Bool × Rk := if d.left = 0 then (true, { d with power := false }) else (false, if 0 < d.left then { d with left := d.left - 1 } else d)
theorem burns_c {w : World} {ρ : Nat → Nat} {R : Nat} {d : Rk} (h : RefAt w ρ R d) (hl : d.left ≤ 9223372036854775807) : Calls Try.prog 41 #[.pointer (some ⟨R, 0, none⟩)] w fun e w' => e = .returned (.bool d.burn.1) ∧ RLeft ρ R w d.burn.2 w' := by
  have c5 := h.left
  have z5 := h.fz 5
  have c6 := h.power
  have z6 := h.fz 6
  unfold Rk.burn
  by_cases h0 : d.left = 0
  · rw [if_pos h0]
    have hs := h.setPower false
    rw [h0] at c5
    have H0 := Lib.hid h0
    clear h0
    go_enter Try.func41, Try.ntmps41
    go_wp2
    go_ret
    exact ⟨rfl, ρ, hs, (Mr.refl ρ w).set h.role 6 _⟩
  · rw [if_neg h0]
    by_cases h1 : 0 < d.left
    · rw [if_pos h1]
      have hs := h.setLeft (d.left - 1)
      have h0' : (d.left == 0) = false := beq_false_of_ne h0
      generalize d.left = n at *
      go_enter Try.func41, Try.ntmps41
      go_wp2
      go_ret
      exact ⟨rfl, ρ, hs, (Mr.refl ρ w).set h.role 5 _⟩
    · rw [if_neg h1]
      have h0' : (d.left == 0) = false := beq_false_of_ne h0
      generalize hn : d.left = n at *
      clear hn
      go_enter Try.func41, Try.ntmps41
      go_wp2
      go_ret
      exact ⟨rfl, ρ, h, Mr.refl ρ w⟩
def Rk.fuse (d : Rk) (n : Int) : Int × Rk := if d.power = false then (8, d) else (0, { d with left := max n (-1) })
theorem rfuse_c {w : World} {ρ : Nat → Nat} {R : Nat} {d : Rk} (h : RefAt w ρ R d) (n : Int) : Calls Try.prog 27 #[.pointer (some ⟨R, 0, none⟩), .int .i64 n] w fun e w' => e = .returned (.int .i64 (d.fuse n).1) ∧ RLeft ρ R w (d.fuse n).2 w' := by
  have c5 := h.left
  have z5 := h.fz 5
  have c6 := h.power
  unfold Rk.fuse
  have H := Lib.hid h
  by_cases hp : d.power = false
  · rw [if_pos hp]
    rw [hp] at c6
    clear hp h
    go_enter Try.func27, Try.ntmps27
    go_wp2
    go_ret
    exact ⟨rfl, ρ, H.out, Mr.refl ρ w⟩
  · rw [if_neg hp]
    rw [show d.power = true by simpa using hp] at c6
    have hs := h.setLeft (max n (-1))
    by_cases hn : n < -1
    · rw [show max n (-1) = -1 by omega] at hs ⊢
      clear hp
      go_enter Try.func27, Try.ntmps27
      go_wp2
      go_ret
      exact ⟨rfl, ρ, hs, (Mr.refl ρ w).set h.role 5 _⟩
    · rw [show max n (-1) = n by omega] at hs ⊢
      have hn' : -1 ≤ n := by omega
      clear hp
      go_enter Try.func27, Try.ntmps27
      go_wp2
      go_ret
      exact ⟨rfl, ρ, hs, (Mr.refl ρ w).set h.role 5 _⟩
def Rk.offc (d : Rk) : Int × Rk := if d.power = false then (8, d) else (0, { d with power := false })
theorem roff_c {w : World} {ρ : Nat → Nat} {R : Nat} {d : Rk} (h : RefAt w ρ R d) : Calls Try.prog 28 #[.pointer (some ⟨R, 0, none⟩)] w fun e w' => e = .returned (.int .i64 d.offc.1) ∧ RLeft ρ R w d.offc.2 w' := by
  have c6 := h.power
  have z6 := h.fz 6
  unfold Rk.offc
  have H := Lib.hid h
  by_cases hp : d.power = false
  · rw [if_pos hp]
    rw [hp] at c6
    clear hp h
    go_enter Try.func28, Try.ntmps28
    go_wp2
    go_ret
    exact ⟨rfl, ρ, H.out, Mr.refl ρ w⟩
  · rw [if_neg hp]
    rw [show d.power = true by simpa using hp] at c6
    have hs := h.setPower false
    clear hp
    go_enter Try.func28, Try.ntmps28
    go_wp2
    go_ret
    exact ⟨rfl, ρ, hs, (Mr.refl ρ w).set h.role 6 _⟩

/-- what stands, with 2^40 units -/
def rstands (F : Fil) : List Int := refF F.s 1099511627776 F.l
theorem rkept_len (F : Fil) (u : Int) : (refF F.s u F.l).length ≤ F.s.length + sizes F.l := by rw [refF_kept]; exact kept_len _ _ _
set_option maxRecDepth 100000 in
theorem rstands_c {w : World} {ρ : Nat → Nat} {R : Nat} {d : Rk} (h : RefAt w ρ R d) (f : Nat) (hf : f < 2) (hs : Small (d.file f)) : Calls Try.prog 32 #[.pointer (some ⟨R, 0, none⟩), .int .i64 f] w fun e w' => e = .returned (.string (strOfNums (rstands (d.file f)))) ∧ ∃ n, w' = w.drewN n := by
  obtain ⟨lv, c0, c1, hl⟩ := h.file f hf
  rw [Nat.mul_comm] at c0 c1
  have kd := done_c (d.file f).s lv (d.file f).l 1099511627776 w.drew hl.loose (by have := hs.1; omega) hs.2 (by omega) (by omega)
  have f0 : (0 : Int) ≤ f := by omega
  have f1 : (f : Int) < 2 := by omega
  have d0 : w.drew.cell? ⟨R, f * 2, none⟩ = some (.string (strOfNums (d.file f).s)) := c0
  have d1 : w.drew.cell? ⟨R, f * 2 + 1, none⟩ = some lv := c1
  clear c0 c1
  obtain ⟨pv, lcv, ccv, rfl⟩ : ∃ p n c, lv = .slice p n c := by
    obtain ⟨p, c, e, -⟩ := hl.loose
    exact ⟨_, _, _, e⟩
  have hdr : ∃ n, w.drew = w.drewN n := ⟨1, rfl⟩
  go_enter Try.func32, Try.ntmps32
  go_wp2_with fail
  refine wp_region_still_tail 14 (by kernel_rfl) (by kernel_rfl) ?_
  change wpStill _ _ w.drew (fun a' => wpList _ _ _ _ a' w.drew) _ _
  generalize w.drew = W2 at *
  simp only [List.take_succ_cons, List.take_zero, List.drop_succ_cons, List.drop_zero]
  repeat still_step
  try refine wpStill_nil ?_
  go_wp2_with (go_at_call 42; with_reducible refine kd.mono ?_; rintro e w2 ⟨rfl, rfl⟩)
  go_ret
  exact ⟨rfl, hdr⟩
end Go.Proofs.Ytfohemgfiidokaa
