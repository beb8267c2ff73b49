/- The document's disk: what is done to bytes. The document's disk in memory (roles 5; 6, 7: its rows), and its quiet methods. The document's disk: Room, Read, New, Sync, On. The document's disk: Sync, On; a change put behind a file's loose ones. The document's disk: Cut, Write. DiskPlays' plain law: the program's disk and the document's go alike. -/
import Derived.Test.YtfohemgfiidokaaGreatDoorYg
import Derived.Deep.QuietTactic
import Derived.BigQuiet
import Derived.StillTailTactics
import Derived.Deep.RegionWith
import Derived.Laws.IdiomStrings
import Derived.Test.YtfohemgfiidokaaGreatDoorYh
namespace Go.Proofs.YtfohemgfiidokaaGreatDoor
open Go.RowKit Go.Sort

theorem str_take (B : List Int) (k : Nat) : (strOfNums B).extract 0 k = strOfNums (B.take k) := by
  unfold strOfNums
  rw [ByteArray.extract_mk, List.map_take]
  simp
/-- the cells of a change -/
def rcell : Chg → List Value
  | .wr b => [.bool false, .string (strOfNums b), .int .i64 0]
  | .ct n => [.bool true, .string (strOfNums []), .int .i64 n]
def rcells : List Chg → List Value
  | [] => []
  | c :: t => rcell c ++ rcells t
theorem rcell_len (c : Chg) : (rcell c).length = 3 := by cases c <;> rfl
theorem rcells_len : ∀ l : List Chg, (rcells l).length = l.length * 3
  | [] => rfl
  | c :: t => by simp only [rcells, List.length_append, rcell_len, rcells_len t, List.length_cons]; omega
theorem rcells_app (a b : List Chg) : rcells (a ++ b) = rcells a ++ rcells b := by
  induction a with
  | nil => rfl
  | cons c t ih => simp only [List.cons_append, rcells, ih, List.append_assoc]
theorem rcells_get : ∀ (l : List Chg) (j : Nat) (h : j < l.length) (k : Nat), k < 3 → (rcells l)[j * 3 + k]? = (rcell l[j])[k]?
  | c :: t, 0, _, k, hk => by
    simp only [rcells, Nat.zero_mul, Nat.zero_add, List.getElem_cons_zero]
    rw [List.getElem?_append_left (by rw [rcell_len]; exact hk)]
  | c :: t, j + 1, h, k, hk => by
    simp only [rcells, List.getElem_cons_succ]
    rw [List.getElem?_append_right (by rw [rcell_len]; omega), rcell_len, show (j + 1) * 3 + k - 3 = j * 3 + k by omega]
    exact rcells_get t j (by simpa using h) k hk
def NonNeg (l : List Chg) : Prop := ∀ n, Chg.ct n ∈ l → 0 ≤ n
/-- a row of changes that may be read -/
def RLoose (w : World) (v : Value) (l : List Chg) : Prop :=
  ∃ p cap, v = .slice p l.length cap ∧ NonNeg l ∧ ∀ j (h : j < l.length), ∃ g, p = some ⟨g, 0, none⟩ ∧ ∀ k, k < 3 → w.cell? ⟨g, j * 3 + k, none⟩ = (rcell l[j])[k]?
def Chg.used (u : Int) : Chg → Int
  | .wr b => min u b.length
  | .ct _ => 1
def refF (b : List Int) (u : Int) : List Chg → List Int
  | [] => b
  | c :: t => if u ≤ 0 then b else refF (c.done b u) (u - c.used u) t
theorem keptF_stop (l : List Chg) (b : List Int) (u : Int) (h : u ≤ 0) : keptF b u l = b ∧ refF b u l = b := by
  cases l with
  | nil => exact ⟨rfl, rfl⟩
  | cons c t => simp only [keptF, refF]; rw [if_pos h, if_pos h]; exact ⟨rfl, rfl⟩
theorem refF_kept : ∀ (l : List Chg) (b : List Int) (u : Int), refF b u l = keptF b u l
  | [], _, _ => rfl
  | c :: t, b, u => by
    simp only [refF, keptF]
    split
    · rfl
    · rw [refF_kept t]
      cases c with
      | ct n => rfl
      | wr x =>
        simp only [Chg.used, Chg.units]
        by_cases h : u ≤ x.length
        · rw [Int.min_eq_left h, (keptF_stop t _ (u - u) (by omega)).1, (keptF_stop t _ (u - x.length) (by omega)).1]
        · rw [Int.min_eq_right (by omega)]

set_option maxRecDepth 100000 in
set_option maxHeartbeats 1600000 in
theorem done_c (s : List Int) (v : Value) (l : List Chg) (u : Int) (w : World) (hl : RLoose w v l) (hL : s.length + sizes l ≤ 1000000000) (hn : l.length ≤ 1000000000) (hu : -9223372036854775808 ≤ u) (hu' : u ≤ 9223372036854775807) :
    Calls Tryz.prog 89 #[.string (strOfNums s), v, .int .i64 u] w fun e w' => e = .returned (.string (strOfNums (refF s u l))) ∧ w' = w := by
  obtain ⟨p, cap, rfl, hnn, hel⟩ := hl
  have HE := Lib.hid (And.intro hnn hel)
  clear hnn hel
  go_enter Tryz.func89, Tryz.ntmps89
  go_wp2_with fail
  go_loop [0, 2, 7] (fun sv uv iv => ∃ (k : Nat) (b : List Int) (u' : Int), k ≤ l.length ∧ iv = .int .i64 k ∧ uv = .int .i64 u' ∧ sv = .string (strOfNums b) ∧ refF b u' (l.drop k) = refF s u l ∧ b.length + sizes (l.drop k) ≤ 1000000000 ∧ -9223372036854775808 ≤ u' ∧ u' ≤ 9223372036854775807) (fun _ _ i => l.length - (intOf i).toNat)
  case atStart => exact ⟨0, s, u, by omega, rfl, rfl, rfl, rfl, hL, hu, hu'⟩
  case round =>
    clear hu hu' hL
    obtain ⟨k, b, u', hk, rfl, rfl, rfl, hkf, hsz, hu0, hu1⟩ := hrel
    have hk0 : (0 : Int) ≤ k := by omega
    by_cases hlt : k < l.length
    · have hkl : (k : Int) < l.length := by omega
      have hdr : l.drop k = l[k] :: l.drop (k + 1) := List.drop_eq_getElem_cons hlt
      obtain ⟨g, rfl, hcell⟩ := HE.out.2 k hlt
      have hck0 := HE.out.1
      have hmem : l[k] ∈ l := List.getElem_mem hlt
      rw [hdr] at hkf hsz
      generalize l[k] = c at hkf hsz hcell hmem
      simp only [sizes] at hsz
      simp only [refF] at hkf
      have c0 := hcell 0 (by omega)
      have c1 := hcell 1 (by omega)
      have c2 := hcell 2 (by omega)
      rw [Nat.add_zero] at c0
      by_cases hu2 : u' ≤ 0
      · rw [if_pos hu2] at hkf
        have HK := Lib.hid hkf
        clear hkf hdr hcell hck0 hmem c0 c1 c2
        go_wp2_with fail
        go_ret
        refine ⟨?_, rfl⟩
        rw [← HK.out]
        rfl
      · have hu3 : 0 < u' := by omega
        rw [if_neg hu2] at hkf
        have HK := Lib.hid hkf
        clear hkf hdr hcell hu2
        cases c with
        | ct n =>
          have n0 : 0 ≤ n := hck0 n hmem
          simp only [rcell, List.getElem?_cons_zero, List.getElem?_cons_succ] at c0 c1 c2
          have hsb := strOfNums_size b
          have hsz' : b.length ≤ 1000000000 := by omega
          clear hck0 hmem
          by_cases hnb : n ≤ (b.length : Int)
          · obtain ⟨m, rfl⟩ : ∃ m : Nat, n = m := ⟨n.toNat, by omega⟩
            have hex := str_take b m
            go_wp2_with fail
            go_round
            case rel => exact ⟨k + 1, b.take m, u' - 1, by omega, by go_num, rfl, by first | rfl | rw [str_take], HK.out, by (rw [List.length_take]; simp only [Chg.size] at hsz; omega), by omega, by omega⟩
            case measure => simp [intOf]; omega
          · have hex := str_take b b.length
            rw [List.take_length] at hex
            go_wp2_with fail
            go_round
            case rel => exact ⟨k + 1, b, u' - 1, by omega, by go_num, rfl, rfl, by (have := HK.out; simp only [Chg.done, Chg.used] at this; rw [List.take_of_length_le (by omega)] at this; exact this), by (simp only [Chg.size] at hsz; omega), by omega, by omega⟩
            case measure => simp [intOf]; omega
        | wr x =>
          simp only [rcell, List.getElem?_cons_zero, List.getElem?_cons_succ] at c0 c1 c2
          have hsx := strOfNums_size x
          have hsz' : b.length + (x.length + sizes (l.drop (k + 1))) ≤ 1000000000 := hsz
          clear hck0 hmem c2
          have hsb := strOfNums_size b
          have hbx : ¬ 9223372036854775807 < b.length + x.length := by omega
          by_cases hxu : u' ≤ (x.length : Int)
          · obtain ⟨m, rfl⟩ : ∃ m : Nat, u' = m := ⟨u'.toNat, by omega⟩
            have hex := str_take x m
            have had := str_add b (x.take m) (by rw [List.length_take]; omega)
            go_wp2_with fail
            go_round
            case rel => exact ⟨k + 1, b ++ x.take m, m - m, by omega, by go_num, by first | rfl | simp, rfl, by (have := HK.out; simp only [Chg.done, Chg.used, Int.toNat_natCast] at this; rw [Int.min_eq_left (by omega)] at this; exact this), by (rw [List.length_append, List.length_take]; omega), by omega, by omega⟩
            case measure => simp [intOf]; omega
          · have hex := str_take x x.length
            rw [List.take_length] at hex
            have had := str_add b x (by omega)
            have x0 : (0 : Int) ≤ x.length := by omega
            go_wp2_with fail
            go_round
            case rel => exact ⟨k + 1, b ++ x, u' - x.length, by omega, by go_num, rfl, rfl, by (have := HK.out; simp only [Chg.done, Chg.used] at this; rw [Int.min_eq_right (by omega), List.take_of_length_le (by omega)] at this; exact this), by (rw [List.length_append]; omega), by omega, by omega⟩
            case measure => simp [intOf]; omega
    · have hkk : k = l.length := by omega
      subst hkk
      rw [List.drop_length] at hkf
      have HK := Lib.hid hkf
      clear hkf
      go_wp2_with fail
      go_ret
      refine ⟨?_, rfl⟩
      rw [← HK.out]
      rfl
end Go.Proofs.YtfohemgfiidokaaGreatDoor
namespace Go.Proofs.YtfohemgfiidokaaGreatDoor
open Go.RowKit Go.Sort

structure Rk where
  f0 : Fil
  f1 : Fil
  most : Int
  left : Int
  power : Bool
def Rk.file (d : Rk) : Nat → Fil
  | 0 => d.f0
  | _ => d.f1
def Rk.setFile (d : Rk) (f : Nat) (F : Fil) : Rk := match f with
  | 0 => { d with f0 := F }
  | _ => { d with f1 := F }
def RLo (w : World) (ρ : Nat → Nat) (r : Nat) (v : Value) (l : List Chg) : Prop := NonNeg l ∧ w.ownsRow 0 133 3 v l.length (rcells l) ∧ ∀ g, v.ownBlock = some g → ρ g = r
def RFil (w : World) (ρ : Nat → Nat) (R f : Nat) (F : Fil) : Prop := ∃ lv, w.cell? ⟨R, 2 * f, none⟩ = some (.string (strOfNums F.s)) ∧ w.cell? ⟨R, 2 * f + 1, none⟩ = some lv ∧ RLo w ρ (6 + f) lv F.l
structure RefAt (w : World) (ρ : Nat → Nat) (R : Nat) (d : Rk) : Prop where
  role : ρ R = 5
  fresh : ∀ k, w.heap.size ≤ k → ρ k = 0
  f0 : RFil w ρ R 0 d.f0
  f1 : RFil w ρ R 1 d.f1
  most : w.cell? ⟨R, 4, none⟩ = some (.int .i64 d.most)
  left : w.cell? ⟨R, 5, none⟩ = some (.int .i64 d.left)
  power : w.cell? ⟨R, 6, none⟩ = some (.bool d.power)
  fz : ∀ o, w.frozen? ⟨R, o, none⟩ = false
theorem RLo.loose {w : World} {ρ : Nat → Nat} {r : Nat} {v : Value} {l : List Chg} (h : RLo w ρ r v l) : RLoose w v l := by
  obtain ⟨h1, h2, h3⟩ := h
  rcases h2.2 with ⟨e1, e2⟩ | ⟨g, cap, cur, e1, -⟩
  · exact ⟨none, 0, by rw [e1, e2], h1, fun j hj => by omega⟩
  · refine ⟨_, cap, e1, h1, fun j hj => ⟨g, rfl, fun k hk => ?_⟩⟩
    subst e1
    rw [h2.cellAt (j * 3 + k) (by omega)]
    exact rcells_get l j hj k hk
theorem RefAt.file {w : World} {ρ : Nat → Nat} {R : Nat} {d : Rk} (h : RefAt w ρ R d) (f : Nat) (hf : f < 2) : RFil w ρ R f (d.file f) := by
  rcases f with _ | _ | f
  · exact h.f0
  · exact h.f1
  · omega
theorem RefAt.lt {w : World} {ρ : Nat → Nat} {R : Nat} {d : Rk} (h : RefAt w ρ R d) : R < w.heap.size := block_lt_of_cell h.most
theorem RFil.other {w w' : World} {ρ ρ' : Nat → Nat} {R f : Nat} {F : Fil} (h : RFil w ρ R f F) (hk : ∀ g, g < w.heap.size → ρ g = 6 + f → ρ' g = ρ g ∧ w'.heap[g]? = w.heap[g]?)
    (hc : w'.cell? ⟨R, 2 * f, none⟩ = w.cell? ⟨R, 2 * f, none⟩) (hc1 : w'.cell? ⟨R, 2 * f + 1, none⟩ = w.cell? ⟨R, 2 * f + 1, none⟩) : RFil w' ρ' R f F := by
  obtain ⟨lv, h1, h2, h3, h4, h5⟩ := h
  exact ⟨lv, hc.trans h1, hc1.trans h2, h3, own_other h4 fun g hg => (hk g (own_lt h4 hg) (h5 g hg)).2, fun g hg => ((hk g (own_lt h4 hg) (h5 g hg)).1).trans (h5 g hg)⟩
theorem RefAt.other {w w' : World} {ρ ρ' : Nat → Nat} {R : Nat} {d : Rk} (h : RefAt w ρ R d) (hk : ∀ g, g < w.heap.size → 5 ≤ ρ g → ρ g ≤ 7 → ρ' g = ρ g ∧ w'.heap[g]? = w.heap[g]?) (hf : ∀ k, w'.heap.size ≤ k → ρ' k = 0) : RefAt w' ρ' R d := by
  have hD := h.lt
  have hr := h.role
  have hc : ∀ o, w'.cell? ⟨R, o, none⟩ = w.cell? ⟨R, o, none⟩ := fun o => World.cell?_of_block (hk R hD (by omega) (by omega)).2
  exact ⟨(hk R hD (by omega) (by omega)).1.trans hr, hf, h.f0.other (fun g hl hg => hk g hl (by omega) (by omega)) (hc _) (hc _), h.f1.other (fun g hl hg => hk g hl (by omega) (by omega)) (hc _) (hc _),
    (hc _).trans h.most, (hc _).trans h.left, (hc _).trans h.power, fun o => (World.frozen?_of_block (hk R hD (by omega) (by omega)).2).trans (h.fz o)⟩
theorem RefAt.keep {w w' : World} {ρ : Nat → Nat} {R : Nat} {d : Rk} (h : RefAt w ρ R d) (hb : Below w.heap.size w w') : RefAt w' ρ R d :=
  h.other (fun g hg _ _ => ⟨rfl, hb.block g hg⟩) fun k hk => h.fresh k (Nat.le_trans hb.size hk)
theorem rfil_set {w : World} {ρ : Nat → Nat} {R f o : Nat} {F : Fil} {v : Value} (h : RFil w ρ R f F) (hr : ρ R = 5) (h0 : 2 * f ≠ o) (h1 : 2 * f + 1 ≠ o) : RFil (w.setCell ⟨R, o, none⟩ v) ρ R f F :=
  h.other (fun g _ hg => ⟨rfl, set_heap fun e => by subst e; omega⟩) (set_cell h0) (set_cell h1)
theorem RefAt.setLeft {w : World} {ρ : Nat → Nat} {R : Nat} {d : Rk} (h : RefAt w ρ R d) (n : Int) : RefAt (w.setCell ⟨R, 5, none⟩ (.int .i64 n)) ρ R { d with left := n } :=
  ⟨h.role, fun k hk => h.fresh k (by rwa [set_size] at hk), rfil_set h.f0 h.role (by omega) (by omega), rfil_set h.f1 h.role (by omega) (by omega), (set_cell (by omega)).trans h.most, set_same h.left, (set_cell (by omega)).trans h.power, fun o => set_frozen.trans (h.fz o)⟩
theorem RefAt.setPower {w : World} {ρ : Nat → Nat} {R : Nat} {d : Rk} (h : RefAt w ρ R d) (b : Bool) : RefAt (w.setCell ⟨R, 6, none⟩ (.bool b)) ρ R { d with power := b } :=
  ⟨h.role, fun k hk => h.fresh k (by rwa [set_size] at hk), rfil_set h.f0 h.role (by omega) (by omega), rfil_set h.f1 h.role (by omega) (by omega), (set_cell (by omega)).trans h.most, (set_cell (by omega)).trans h.left, set_same h.power, fun o => set_frozen.trans (h.fz o)⟩

/-- the document's disk's own blocks alone are turned; each block keeps its role -/
structure Mr (ρ ρ' : Nat → Nat) (w w' : World) : Prop where
  os : w'.os = w.os
  tape : w'.tape = w.tape
  output : w'.output = w.output
  size : w.heap.size ≤ w'.heap.size
  role : ∀ g, g < w.heap.size → ρ' g = ρ g
  block : ∀ g, g < w.heap.size → ρ g < 5 ∨ 7 < ρ g → w'.heap[g]? = w.heap[g]?
theorem Mr.refl (ρ : Nat → Nat) (w : World) : Mr ρ ρ w w := ⟨rfl, rfl, rfl, Nat.le_refl _, fun _ _ => rfl, fun _ _ _ => rfl⟩
theorem Mr.trans {ρ ρ' ρ'' : Nat → Nat} {w w' w'' : World} (h : Mr ρ ρ' w w') (k : Mr ρ' ρ'' w' w'') : Mr ρ ρ'' w w'' :=
  ⟨k.os.trans h.os, k.tape.trans h.tape, k.output.trans h.output, Nat.le_trans h.size k.size, fun g hg => (k.role g (Nat.lt_of_lt_of_le hg h.size)).trans (h.role g hg),
    fun g hg hr => (k.block g (Nat.lt_of_lt_of_le hg h.size) (by rw [h.role g hg]; exact hr)).trans (h.block g hg hr)⟩
theorem Mr.ofBelow (ρ : Nat → Nat) {w w' : World} (h : Below w.heap.size w w') : Mr ρ ρ w w' := ⟨h.os, h.tape, h.output, h.size, fun _ _ => rfl, fun g hg _ => h.block g hg⟩
theorem Mr.set {ρ ρ' : Nat → Nat} {w w' : World} {R : Nat} (h : Mr ρ ρ' w w') (hR : ρ' R = 5) (o : Nat) (v : Value) : Mr ρ ρ' w (w'.setCell ⟨R, o, none⟩ v) := by
  have b : RowKit.Below 0 w' (w'.setCell ⟨R, o, none⟩ v) := (RowKit.Below.refl 0 w').setCell (Nat.zero_le _) v
  refine ⟨b.os.trans h.os, b.tape.trans h.tape, b.output.trans h.output, Nat.le_trans h.size b.size, h.role, fun g hg hr => ?_⟩
  rw [set_heap]
  · exact h.block g hg hr
  · intro e
    have := h.role g hg
    subst e
    omega
def RLeft (ρ : Nat → Nat) (R : Nat) (w : World) (d : Rk) (w' : World) : Prop := ∃ ρ', RefAt w' ρ' R d ∧ Mr ρ ρ' w w'

def rmay (power : Bool) (f : Int) : Int := if power = false then 8 else if f < 0 ∨ 1 < f then 1 else 0
theorem rmay_c {w : World} {ρ : Nat → Nat} {R : Nat} {d : Rk} (h : RefAt w ρ R d) (f : Int) : Calls Tryz.prog 90 #[.pointer (some ⟨R, 0, none⟩), .int .i64 f] w fun e w' => e = .returned (.int .i64 (rmay d.power f)) ∧ w' = w := by
  have c := h.power
  generalize d.power = p at c
  unfold rmay
  cases p
  · go_enter Tryz.func90, Tryz.ntmps90
    go_wp2
    go_ret
    exact ⟨rfl, rfl⟩
  · by_cases h0 : f < 0
    · go_enter Tryz.func90, Tryz.ntmps90
      go_wp2
      go_ret
      exact ⟨by simp, rfl⟩
    · by_cases h1 : 1 < f
      · go_enter Tryz.func90, Tryz.ntmps90
        go_wp2
        go_ret
        exact ⟨by simp, rfl⟩
      · go_enter Tryz.func90, Tryz.ntmps90
        go_wp2
        go_ret
        exact ⟨by simp, rfl⟩
def Rk.burn (d : Rk) : Bool × Rk := if d.left = 0 then (true, { d with power := false }) else (false, if 0 < d.left then { d with left := d.left - 1 } else d)
theorem burns_c {w : World} {ρ : Nat → Nat} {R : Nat} {d : Rk} (h : RefAt w ρ R d) (hl : d.left ≤ 9223372036854775807) : Calls Tryz.prog 91 #[.pointer (some ⟨R, 0, none⟩)] w fun e w' => e = .returned (.bool d.burn.1) ∧ RLeft ρ R w d.burn.2 w' := by
  have c5 := h.left
  have z5 := h.fz 5
  have c6 := h.power
  have z6 := h.fz 6
  unfold Rk.burn
  by_cases h0 : d.left = 0
  · rw [if_pos h0]
    have hs := h.setPower false
    rw [h0] at c5
    have H0 := Lib.hid h0
    clear h0
    go_enter Tryz.func91, Tryz.ntmps91
    go_wp2
    go_ret
    exact ⟨rfl, ρ, hs, (Mr.refl ρ w).set h.role 6 _⟩
  · rw [if_neg h0]
    by_cases h1 : 0 < d.left
    · rw [if_pos h1]
      have hs := h.setLeft (d.left - 1)
      have h0' : (d.left == 0) = false := beq_false_of_ne h0
      generalize d.left = n at *
      go_enter Tryz.func91, Tryz.ntmps91
      go_wp2
      go_ret
      exact ⟨rfl, ρ, hs, (Mr.refl ρ w).set h.role 5 _⟩
    · rw [if_neg h1]
      have h0' : (d.left == 0) = false := beq_false_of_ne h0
      generalize hn : d.left = n at *
      clear hn
      go_enter Tryz.func91, Tryz.ntmps91
      go_wp2
      go_ret
      exact ⟨rfl, ρ, h, Mr.refl ρ w⟩
def Rk.fuse (d : Rk) (n : Int) : Int × Rk := if d.power = false then (8, d) else (0, { d with left := max n (-1) })
theorem rfuse_c {w : World} {ρ : Nat → Nat} {R : Nat} {d : Rk} (h : RefAt w ρ R d) (n : Int) : Calls Tryz.prog 60 #[.pointer (some ⟨R, 0, none⟩), .int .i64 n] w fun e w' => e = .returned (.int .i64 (d.fuse n).1) ∧ RLeft ρ R w (d.fuse n).2 w' := by
  have c5 := h.left
  have z5 := h.fz 5
  have c6 := h.power
  unfold Rk.fuse
  have H := Lib.hid h
  by_cases hp : d.power = false
  · rw [if_pos hp]
    rw [hp] at c6
    clear hp h
    go_enter Tryz.func60, Tryz.ntmps60
    go_wp2
    go_ret
    exact ⟨rfl, ρ, H.out, Mr.refl ρ w⟩
  · rw [if_neg hp]
    rw [show d.power = true by simpa using hp] at c6
    have hs := h.setLeft (max n (-1))
    by_cases hn : n < -1
    · rw [show max n (-1) = -1 by omega] at hs ⊢
      clear hp
      go_enter Tryz.func60, Tryz.ntmps60
      go_wp2
      go_ret
      exact ⟨rfl, ρ, hs, (Mr.refl ρ w).set h.role 5 _⟩
    · rw [show max n (-1) = n by omega] at hs ⊢
      have hn' : -1 ≤ n := by omega
      clear hp
      go_enter Tryz.func60, Tryz.ntmps60
      go_wp2
      go_ret
      exact ⟨rfl, ρ, hs, (Mr.refl ρ w).set h.role 5 _⟩
def Rk.offc (d : Rk) : Int × Rk := if d.power = false then (8, d) else (0, { d with power := false })
theorem roff_c {w : World} {ρ : Nat → Nat} {R : Nat} {d : Rk} (h : RefAt w ρ R d) : Calls Tryz.prog 61 #[.pointer (some ⟨R, 0, none⟩)] w fun e w' => e = .returned (.int .i64 d.offc.1) ∧ RLeft ρ R w d.offc.2 w' := by
  have c6 := h.power
  have z6 := h.fz 6
  unfold Rk.offc
  have H := Lib.hid h
  by_cases hp : d.power = false
  · rw [if_pos hp]
    rw [hp] at c6
    clear hp h
    go_enter Tryz.func61, Tryz.ntmps61
    go_wp2
    go_ret
    exact ⟨rfl, ρ, H.out, Mr.refl ρ w⟩
  · rw [if_neg hp]
    rw [show d.power = true by simpa using hp] at c6
    have hs := h.setPower false
    clear hp
    go_enter Tryz.func61, Tryz.ntmps61
    go_wp2
    go_ret
    exact ⟨rfl, ρ, hs, (Mr.refl ρ w).set h.role 6 _⟩

/-- what stands, with 2^40 units -/
def rstands (F : Fil) : List Int := refF F.s 1099511627776 F.l
theorem rkept_len (F : Fil) (u : Int) : (refF F.s u F.l).length ≤ F.s.length + sizes F.l := by rw [refF_kept]; exact kept_len _ _ _
set_option maxRecDepth 100000 in
theorem rstands_c {w : World} {ρ : Nat → Nat} {R : Nat} {d : Rk} (h : RefAt w ρ R d) (f : Nat) (hf : f < 2) (hs : Small (d.file f)) : Calls Tryz.prog 55 #[.pointer (some ⟨R, 0, none⟩), .int .i64 f] w fun e w' => e = .returned (.string (strOfNums (rstands (d.file f)))) ∧ ∃ n, w' = w.drewN n := by
  obtain ⟨lv, c0, c1, hl⟩ := h.file f hf
  rw [Nat.mul_comm] at c0 c1
  have kd := done_c (d.file f).s lv (d.file f).l 1099511627776 w.drew hl.loose (by have := hs.1; omega) hs.2 (by omega) (by omega)
  have f0 : (0 : Int) ≤ f := by omega
  have f1 : (f : Int) < 2 := by omega
  have d0 : w.drew.cell? ⟨R, f * 2, none⟩ = some (.string (strOfNums (d.file f).s)) := c0
  have d1 : w.drew.cell? ⟨R, f * 2 + 1, none⟩ = some lv := c1
  clear c0 c1
  obtain ⟨pv, lcv, ccv, rfl⟩ : ∃ p n c, lv = .slice p n c := by
    obtain ⟨p, c, e, -⟩ := hl.loose
    exact ⟨_, _, _, e⟩
  have hdr : ∃ n, w.drew = w.drewN n := ⟨1, rfl⟩
  go_enter Tryz.func55, Tryz.ntmps55
  go_wp2_with fail
  refine wp_region_still_tail 14 (by kernel_rfl) (by kernel_rfl) ?_
  change wpStill _ _ w.drew (fun a' => wpList _ _ _ _ a' w.drew) _ _
  generalize w.drew = W2 at *
  simp only [List.take_succ_cons, List.take_zero, List.drop_succ_cons, List.drop_zero]
  repeat still_step
  try refine wpStill_nil ?_
  go_wp2_with (go_at_call 89; with_reducible refine kd.mono ?_; rintro e w2 ⟨rfl, rfl⟩)
  go_ret
  exact ⟨rfl, hdr⟩
end Go.Proofs.YtfohemgfiidokaaGreatDoor
namespace Go.Proofs.YtfohemgfiidokaaGreatDoor
open Go.RowKit Go.Sort

theorem RefAt.keepN {w : World} {ρ : Nat → Nat} {R : Nat} {d : Rk} (h : RefAt w ρ R d) (n : Nat) : RefAt (w.drewN n) ρ R d := h.keep (below_drewN w n)
def ROk (d : Rk) : Prop := Small d.f0 ∧ Small d.f1 ∧ 0 ≤ d.most ∧ d.most ≤ 4194304 ∧ d.left ≤ 9223372036854775807
theorem ROk.file {d : Rk} (h : ROk d) (f : Nat) : Small (d.file f) := by rcases f with _ | f; exact h.1; exact h.2.1
def rroomF (d : Rk) : Int := max 0 (d.most - (rstands d.f0).length - (rstands d.f1).length)
set_option maxRecDepth 100000 in
set_option maxHeartbeats 1600000 in
theorem rroom_c {w : World} {ρ : Nat → Nat} {R : Nat} {d : Rk} (h : RefAt w ρ R d) (ok : ROk d) : Calls Tryz.prog 23 #[.pointer (some ⟨R, 0, none⟩)] w fun e w' => e = .returned (.int .i64 (rroomF d)) ∧ ∃ n, w' = w.drewN n := by
  have k0 := fun n => rstands_c (h.keepN n) 0 (by omega) (ok.file 0)
  have k1 := fun n => rstands_c (h.keepN n) 1 (by omega) (ok.file 1)
  have l0 := rkept_len d.f0 1099511627776
  have l1 := rkept_len d.f1 1099511627776
  have s0 := ok.1.1
  have s1 := ok.2.1.1
  have m0 := ok.2.2.1
  have m1 := ok.2.2.2.1
  unfold rroomF
  have hz0 := strOfNums_size (rstands d.f0)
  have hz1 := strOfNums_size (rstands d.f1)
  have e0 : (rstands d.f0).length ≤ 500000000 := by unfold rstands; omega
  have e1 : (rstands d.f1).length ≤ 500000000 := by unfold rstands; omega
  change ∀ n, Calls Tryz.prog 55 #[.pointer (some ⟨R, 0, none⟩), .int .i64 0] (w.drewN n) fun e w' => e = .returned (.string (strOfNums (rstands d.f0))) ∧ ∃ m, w' = (w.drewN n).drewN m at k0
  change ∀ n, Calls Tryz.prog 55 #[.pointer (some ⟨R, 0, none⟩), .int .i64 1] (w.drewN n) fun e w' => e = .returned (.string (strOfNums (rstands d.f1))) ∧ ∃ m, w' = (w.drewN n).drewN m at k1
  generalize rstands d.f0 = X0 at *
  generalize rstands d.f1 = X1 at *
  have c4 := h.most
  generalize d.most = most at *
  have g1 : IntKind.i64.wrap (most - X0.length) = most - X0.length := by rw [IntKind.wrap_i64]; omega
  have g2 : IntKind.i64.wrap (most - X0.length - X1.length) = most - X0.length - X1.length := by rw [IntKind.wrap_i64]; omega
  have K := Lib.hid (And.intro k0 k1)
  clear k0 k1 h ok s0 s1 l0 l1
  go_enter Tryz.func23, Tryz.ntmps23
  go_wp2_with fail
  by_cases hr : 0 < most - (X0.length : Int) - (X1.length : Int)
  · go_quiet (first | (go_at_call_of 55 (Value.int .i64 0); exact Calls.quiet_of (K.out.1 _)) | (go_at_call_of 55 (Value.int .i64 1); exact Calls.quiet_of (K.out.2 _)))
    clear g1 g2
    go_wp2_with fail
    go_ret
    exact ⟨congrArg (fun z : Int => Ending.returned (.int .i64 z)) (by omega), _, rfl⟩
  · go_quiet (first | (go_at_call_of 55 (Value.int .i64 0); exact Calls.quiet_of (K.out.1 _)) | (go_at_call_of 55 (Value.int .i64 1); exact Calls.quiet_of (K.out.2 _)))
    clear g1 g2
    go_wp2_with fail
    go_ret
    exact ⟨congrArg (fun z : Int => Ending.returned (.int .i64 z)) (by omega), _, rfl⟩

/-- a slice whose text is s -/
def TxtB (w : World) (v : Value) (s : ByteArray) : Prop := ∀ W, Below w.heap.size w W → (convert 40 9 v).run Tryz.prog W = .ok (.string s) W
theorem conv_txt (s : ByteArray) (w : World) : ∃ n c w', (convert 9 40 (.string s)).run Tryz.prog w = .ok (.slice (some ⟨w.heap.size, 0, none⟩) n c) w' ∧ Below w.heap.size w w' ∧ TxtB w' (.slice (some ⟨w.heap.size, 0, none⟩) n c) s := by
  refine ⟨_, _, _, run_bytes_of_string w 9 40 5 s Tryz.underlying9 Tryz.underlying40 Tryz.underlying5, bel_alloc (Below.refl _ _).drew _, fun W hW => ?_⟩
  have hlen : s.data.toList.length = s.size := Array.length_toList
  have hrow := bytesRow_at s (grownCap w s.size 0 5)
  generalize bytesRow s (grownCap w s.size 0 5) = C at hW hrow
  have hcell : ∀ j, W.cell? ⟨w.heap.size, j, none⟩ = C[j]? := fun j => by
    rw [hW.cell (show w.heap.size < (w.heap.push (.cells C 5 (C.size, C.size + 1))).size by rw [Array.size_push]; omega)]
    exact cell_of_row _ _ _ _ _ _ (heap_alloc_new w.drew _)
  have := run_convert_bytes_back (P := Tryz.prog) W 40 9 5 ⟨w.heap.size, 0, none⟩ (grownCap w s.size 0 5) s.data.toList Tryz.underlying40 Tryz.underlying5 Tryz.underlying9 (fun j hj => by
    rw [Addr.add_lit, Nat.zero_add, hcell, hrow j (by simpa using hj)]
    simp)
  rw [hlen] at this
  exact this
theorem rread_no {w : World} {ρ : Nat → Nat} {R : Nat} {d : Rk} (h : RefAt w ρ R d) (f : Int) (hm : rmay d.power f ≠ 0) :
    Calls Tryz.prog 25 #[.pointer (some ⟨R, 0, none⟩), .int .i64 f] w fun e w' => e = .returned (.tuple #[.slice none 0 0, .int .i64 (rmay d.power f)]) ∧ w' = w := by
  have c6 := h.power
  unfold rmay at hm ⊢
  by_cases hp : d.power = false
  · rw [if_pos hp]
    rw [hp] at c6
    clear hp h hm
    go_enter Tryz.func25, Tryz.ntmps25
    go_wp2
    go_ret2
    exact ⟨rfl, rfl⟩
  · rw [if_neg hp] at hm ⊢
    rw [show d.power = true by simpa using hp] at c6
    by_cases h0 : f < 0
    · rw [if_pos (.inl h0)]
      clear hm hp h
      go_enter Tryz.func25, Tryz.ntmps25
      go_wp2
      go_ret2
      exact ⟨rfl, rfl⟩
    · have h1 : 1 < f := by
        rcases Int.lt_or_le 1 f with e | e
        · exact e
        · rw [if_neg (by omega)] at hm; exact absurd rfl hm
      rw [if_pos (.inr h1)]
      clear hm hp h
      go_enter Tryz.func25, Tryz.ntmps25
      go_wp2
      go_ret2
      exact ⟨rfl, rfl⟩
set_option maxRecDepth 100000 in
theorem rread_at {w : World} {ρ : Nat → Nat} {R : Nat} {d : Rk} (h : RefAt w ρ R d) (ok : ROk d) (hp : d.power = true) (f : Nat) (hf : f < 2) :
    Calls Tryz.prog 25 #[.pointer (some ⟨R, 0, none⟩), .int .i64 f] w fun e w' => ∃ p n c, e = .returned (.tuple #[.slice p n c, .int .i64 0]) ∧ TxtB w' (.slice p n c) (strOfNums (rstands (d.file f))) ∧ Below w.heap.size w w' := by
  have c6 := h.power
  rw [hp] at c6
  have ks := rstands_c h f hf (ok.file f)
  have f0 : (0 : Int) ≤ f := by omega
  have f1 : ¬ 1 < (f : Int) := by omega
  generalize strOfNums (rstands (d.file f)) = X at *
  clear hp
  go_enter Tryz.func25, Tryz.ntmps25
  go_wp2_with fail
  refine ks.mono ?_
  rintro e w2 ⟨rfl, n, rfl⟩
  obtain ⟨nn, cc, w3, hcv, hb, ht⟩ := conv_txt X (w.drewN n)
  have HT := Lib.hid (And.intro hb ht)
  clear hb ht
  go_wp2_with fail
  go_ret2
  exact ⟨_, _, _, rfl, HT.out.2, bel_call (below_drewN w n) HT.out.1⟩

def rk0 (most : Int) : Rk := ⟨⟨[], []⟩, ⟨[], []⟩, most, -1, true⟩
theorem rnew_any (most : Int) (w : World) (h0 : 1 ≤ most) (h1 : most ≤ 4194304) :
    Calls Tryz.prog 7 #[.int .i64 most] w fun e w' => e = .returned (.tuple #[.pointer (some ⟨w.heap.size, 0, none⟩), .int .i64 0]) ∧ (∀ (ρ : Nat → Nat), ρ w.heap.size = 5 → (∀ k, w.heap.size < k → ρ k = 0) → RefAt w' ρ w.heap.size (rk0 most)) ∧ Below w.heap.size w w' := by
  go_enter Tryz.func7, Tryz.ntmps7
  go_wp2
  go_ret2
  refine ⟨rfl, fun ρ hρ hf => ?_, bel_alloc (Below.refl _ _) _⟩
  have hc : ∀ o u, (#[Value.string ⟨#[]⟩, .slice none 0 0, .string ⟨#[]⟩, .slice none 0 0, .int .i64 most, .int .i64 (-1), .bool true] : Array Value)[o]? = some u → (w.alloc (.cells #[Value.string ⟨#[]⟩, .slice none 0 0, .string ⟨#[]⟩, .slice none 0 0, .int .i64 most, .int .i64 (-1), .bool true] 70)).cell? ⟨w.heap.size, o, none⟩ = some u := fun o u hu => by
    rw [cell_of_row _ _ o _ _ _ (heap_alloc_new _ _)]; exact hu
  have hlo : ∀ r, RLo (w.alloc (.cells #[Value.string ⟨#[]⟩, .slice none 0 0, .string ⟨#[]⟩, .slice none 0 0, .int .i64 most, .int .i64 (-1), .bool true] 70)) ρ r (.slice none 0 0) [] := fun r => ⟨fun n hn => (by cases hn), World.ownsRow_nil _ _ _ _, fun g hg => by simp [Value.ownBlock] at hg⟩
  exact ⟨hρ, fun k hk => hf k (by simp at hk; omega), ⟨.slice none 0 0, hc 0 _ rfl, hc 1 _ rfl, hlo _⟩, ⟨.slice none 0 0, hc 2 _ rfl, hc 3 _ rfl, hlo _⟩, hc 4 _ rfl, hc 5 _ rfl, hc 6 _ rfl, fun o => frozen_of_row _ _ o _ _ (heap_alloc_new _ _)⟩
theorem rnew_no (most : Int) (w : World) (h : most < 1 ∨ 4194304 < most) :
    Calls Tryz.prog 7 #[.int .i64 most] w fun e w' => e = .returned (.tuple #[.pointer none, .int .i64 1]) ∧ w' = w := by
  by_cases h0 : most < 1
  · go_enter Tryz.func7, Tryz.ntmps7
    go_wp2
    go_ret2
    exact ⟨rfl, rfl⟩
  · have h1 : 4194304 < most := by omega
    go_enter Tryz.func7, Tryz.ntmps7
    go_wp2
    go_ret2
    exact ⟨rfl, rfl⟩
end Go.Proofs.YtfohemgfiidokaaGreatDoor
namespace Go.Proofs.YtfohemgfiidokaaGreatDoor
open Go.RowKit Go.Sort

theorem Tryz.info133 : (Tryz.prog.info? 133).map (fun i => (i.zero, i.size, i.bytes)) = some (some (.agg #[.bool false, .string ⟨#[]⟩, .int .i64 0]), 3, 32) := by kernel_rfl
theorem RefAt.settled {w : World} {ρ : Nat → Nat} {R f : Nat} {d : Rk} {xs : List Int} (h : RefAt w ρ R d) (hf : f < 2) :
    RefAt ((w.setCell ⟨R, f * 2, none⟩ (.string (strOfNums xs))).setCell ⟨R, f * 2 + 1, none⟩ (.slice none 0 0)) ρ R (d.setFile f ⟨xs, []⟩) ∧ Mr ρ ρ w ((w.setCell ⟨R, f * 2, none⟩ (.string (strOfNums xs))).setCell ⟨R, f * 2 + 1, none⟩ (.slice none 0 0)) := by
  rw [Nat.mul_comm f 2]
  refine ⟨?_, ((Mr.refl ρ w).set h.role _ _).set h.role _ _⟩
  obtain ⟨lv, c0, c1, -⟩ := h.file f hf
  have hnew : RFil ((w.setCell ⟨R, 2 * f, none⟩ (.string (strOfNums xs))).setCell ⟨R, 2 * f + 1, none⟩ (.slice none 0 0)) ρ R f ⟨xs, []⟩ :=
    ⟨.slice none 0 0, (set_cell (by omega)).trans (set_same c0), set_same ((set_cell (by omega)).trans c1), fun n hn => (by cases hn), World.ownsRow_nil _ _ _ _, fun g hg => by simp [Value.ownBlock] at hg⟩
  have hc : ∀ o, o ≠ 2 * f → o ≠ 2 * f + 1 → ((w.setCell ⟨R, 2 * f, none⟩ (.string (strOfNums xs))).setCell ⟨R, 2 * f + 1, none⟩ (.slice none 0 0)).cell? ⟨R, o, none⟩ = w.cell? ⟨R, o, none⟩ := fun o a b => (set_cell b).trans (set_cell a)
  have hfr : ∀ k, ((w.setCell ⟨R, 2 * f, none⟩ (.string (strOfNums xs))).setCell ⟨R, 2 * f + 1, none⟩ (.slice none 0 0)).heap.size ≤ k → ρ k = 0 := fun k hk => h.fresh k (by rwa [set_size, set_size] at hk)
  have hz : ∀ o, ((w.setCell ⟨R, 2 * f, none⟩ (.string (strOfNums xs))).setCell ⟨R, 2 * f + 1, none⟩ (.slice none 0 0)).frozen? ⟨R, o, none⟩ = false := fun o => set_frozen.trans (set_frozen.trans (h.fz o))
  rcases f with _ | _ | f
  · exact ⟨h.role, hfr, hnew, rfil_set (rfil_set h.f1 h.role (by omega) (by omega)) h.role (by omega) (by omega), (hc _ (by omega) (by omega)).trans h.most, (hc _ (by omega) (by omega)).trans h.left, (hc _ (by omega) (by omega)).trans h.power, hz⟩
  · exact ⟨h.role, hfr, rfil_set (rfil_set h.f0 h.role (by omega) (by omega)) h.role (by omega) (by omega), hnew, (hc _ (by omega) (by omega)).trans h.most, (hc _ (by omega) (by omega)).trans h.left, (hc _ (by omega) (by omega)).trans h.power, hz⟩
  · omega
theorem rmay_zero {p : Bool} {f : Int} (h : rmay p f = 0) : p = true ∧ ∃ k : Nat, k < 2 ∧ f = k := by
  unfold rmay at h
  split at h
  · cases h
  · split at h
    · cases h
    · rename_i h1 h2
      exact ⟨by simpa using h1, f.toNat, by omega, by omega⟩
theorem burn_file (d : Rk) (f : Nat) : d.burn.2.file f = d.file f := by
  unfold Rk.burn
  split
  · rcases f with _ | f <;> rfl
  · dsimp only
    split
    · rcases f with _ | f <;> rfl
    · rfl
theorem burn_ok {d : Rk} (h : ROk d) : ROk d.burn.2 := by
  obtain ⟨h0, h1, h2, h3, h4⟩ := h
  unfold Rk.burn
  split
  · exact ⟨h0, h1, h2, h3, h4⟩
  · dsimp only
    split
    · exact ⟨h0, h1, h2, h3, by show d.left - 1 ≤ _; omega⟩
    · exact ⟨h0, h1, h2, h3, h4⟩
def Rk.sync (d : Rk) (f : Int) : Int × Rk := if rmay d.power f ≠ 0 then (rmay d.power f, d) else if d.burn.1 = true then (8, d.burn.2) else (0, d.burn.2.setFile f.toNat ⟨rstands (d.file f.toNat), []⟩)
set_option maxRecDepth 100000 in
theorem rsync_c {w : World} {ρ : Nat → Nat} {R : Nat} {d : Rk} (h : RefAt w ρ R d) (ok : ROk d) (f : Int) : Calls Tryz.prog 58 #[.pointer (some ⟨R, 0, none⟩), .int .i64 f] w fun e w' => e = .returned (.int .i64 (d.sync f).1) ∧ RLeft ρ R w (d.sync f).2 w' := by
  have km := rmay_c h f
  unfold Rk.sync
  have H := Lib.hid h
  by_cases hm : rmay d.power f = 0
  · rw [if_neg (by rw [hm]; simp)]
    rw [hm] at km
    obtain ⟨-, k, hk, rfl⟩ := rmay_zero hm
    have kb := burns_c h ok.2.2.2.2
    by_cases hb : d.burn.1 = true
    · rw [if_pos hb]
      rw [hb] at kb
      have KB := Lib.hid kb
      clear kb hb hm h
      go_enter Tryz.func58, Tryz.ntmps58
      go_wp2_with fail
      refine km.mono ?_
      rintro e w1 ⟨rfl, hw1⟩
      subst hw1
      go_wp2_with fail
      refine KB.out.mono ?_
      rintro e w2 ⟨rfl, hl⟩
      go_wp2_with fail
      go_ret
      exact ⟨rfl, hl⟩
    · rw [if_neg hb]
      rw [show d.burn.1 = false by simpa using hb] at kb
      have KB := Lib.hid kb
      have f0 : (0 : Int) ≤ k := by omega
      have f1 : (k : Int) < 2 := by omega
      clear kb hb hm h
      go_enter Tryz.func58, Tryz.ntmps58
      go_wp2_with fail
      refine km.mono ?_
      rintro e w1 ⟨rfl, hw1⟩
      subst hw1
      go_wp2_with fail
      refine KB.out.mono ?_
      rintro e w2 ⟨rfl, ρ2, h2, m2⟩
      have ks := rstands_c h2 k hk ((burn_ok ok).file k)
      rw [burn_file] at ks
      go_wp2_with fail
      refine ks.mono ?_
      rintro e w3 ⟨rfl, n, rfl⟩
      have h3 := h2.keepN n
      obtain ⟨lv, c0, c1, -⟩ := h3.file k hk
      rw [Nat.mul_comm 2 k] at c0 c1
      have z0 := h3.fz (k * 2)
      have z1 := h3.fz (k * 2 + 1)
      have HS := Lib.hid (h3.settled (xs := rstands (d.file k)) hk)
      have HB := Lib.hid (below_drewN w2 n)
      have HM := Lib.hid m2
      clear h3 ks h2 m2
      generalize w2.drewN n = w3 at *
      go_wp2_with fail
      go_ret
      exact ⟨rfl, ρ2, HS.out.1, (HM.out.trans (Mr.ofBelow ρ2 HB.out)).trans HS.out.2⟩
  · rw [if_pos hm]
    generalize rmay d.power f = z at km hm
    go_enter Tryz.func58, Tryz.ntmps58
    go_wp2_with fail
    refine km.mono ?_
    rintro e w1 ⟨rfl, hw1⟩
    subst hw1
    go_wp2_with fail
    go_ret
    exact ⟨rfl, ρ, H.out, Mr.refl ρ _⟩
/-- the first k files settled -/
def Rk.on (d : Rk) (pk : Nat → Int) : Nat → Rk
  | 0 => d
  | k + 1 => (d.on pk k).setFile k ⟨refF (d.file k).s (pk k) (d.file k).l, []⟩
def Rk.onc (d : Rk) (pk : Nat → Int) : Int × Rk := if d.power = true then (3, d) else (0, { d.on pk 2 with power := true, left := -1 })
set_option maxRecDepth 100000 in
set_option maxHeartbeats 1600000 in
theorem ron_c {w : World} {ρ : Nat → Nat} {R : Nat} {d : Rk} (h : RefAt w ρ R d) (ok : ROk d) (p : Option Addr) (len cap : Nat) (pk : Nat → Int) (hp : PicksAt w ρ p len pk) :
    Calls Tryz.prog 62 #[.pointer (some ⟨R, 0, none⟩), .slice p len cap] w fun e w' => e = .returned (.int .i64 (d.onc pk).1) ∧ RLeft ρ R w (d.onc pk).2 w' := by
  have c6 := h.power
  have H := Lib.hid h
  unfold Rk.onc
  by_cases hpw : d.power = true
  · rw [if_pos hpw]
    rw [hpw] at c6
    clear hpw h
    go_enter Tryz.func62, Tryz.ntmps62
    go_wp2_with fail
    go_ret
    exact ⟨rfl, ρ, H.out, Mr.refl ρ w⟩
  · rw [if_neg hpw]
    rw [show d.power = false by simpa using hpw] at c6
    have HP := Lib.hid hp
    clear hp hpw h
    go_enter Tryz.func62, Tryz.ntmps62
    go_wp2_with fail
    go_loopw [5] (fun i wr => ∃ k : Nat, k ≤ 2 ∧ i = .int .i64 k ∧ RefAt wr ρ R (d.on pk k) ∧ Mr ρ ρ w wr) (fun i _ => 2 - (intOf i).toNat)
    case atStart => exact ⟨0, by omega, rfl, H.out, Mr.refl _ _⟩
    case round =>
      obtain ⟨k, hk, rfl, hd, hm⟩ := hrel
      obtain ⟨wo, rfl⟩ : ∃ wo : World, wo = wr := ⟨_, rfl⟩
      by_cases hlt : k < 2
      · have k0 : (0 : Int) ≤ k := by omega
        have k1 : (k : Int) < 2 := by omega
        have hfile : (d.on pk k).file k = d.file k := by rcases k with _ | _ | k <;> first | rfl | omega
        obtain ⟨lv, c0, c1, hl⟩ := hd.file k hlt
        rw [hfile] at c0 hl
        rw [Nat.mul_comm 2 k] at c0 c1
        have hsm := ok.file k
        obtain ⟨pv, lcv, ccv, rfl⟩ : ∃ p n c, lv = .slice p n c := by
          obtain ⟨p, c, e, -⟩ := hl.loose
          exact ⟨_, _, _, e⟩
        have kd := fun u hu hu' => done_c (d.file k).s (.slice pv lcv ccv) (d.file k).l u wo.drew hl.loose (by have := hsm.1; omega) hsm.2 hu hu'
        have HKD := Lib.hid kd
        have HD := Lib.hid (hd.keep (Below.refl _ wo).drew)
        have HM := Lib.hid (hm.trans (Mr.ofBelow ρ (Below.refl _ wo).drew))
        have d0 : wo.drew.cell? ⟨R, k * 2, none⟩ = some (.string (strOfNums (d.file k).s)) := c0
        have d1 : wo.drew.cell? ⟨R, k * 2 + 1, none⟩ = some (.slice pv lcv ccv) := c1
        have z0 : wo.drew.frozen? ⟨R, k * 2, none⟩ = false := hd.fz _
        have z1 : wo.drew.frozen? ⟨R, k * 2 + 1, none⟩ = false := hd.fz _
        clear kd c0 c1
        have key : ∀ u : Int, u = pk k → RefAt ((wo.drew.setCell ⟨R, k * 2, none⟩ (.string (strOfNums (refF (d.file k).s u (d.file k).l)))).setCell ⟨R, k * 2 + 1, none⟩ (.slice none 0 0)) ρ R (d.on pk (k + 1)) ∧ Mr ρ ρ w ((wo.drew.setCell ⟨R, k * 2, none⟩ (.string (strOfNums (refF (d.file k).s u (d.file k).l)))).setCell ⟨R, k * 2 + 1, none⟩ (.slice none 0 0)) := fun u hu => by
          subst hu
          have hs := HD.out.settled (xs := refF (d.file k).s (pk k) (d.file k).l) hlt
          exact ⟨hs.1, HM.out.trans hs.2⟩
        have HKEY := Lib.hid key
        clear key hl hsm
        by_cases hln : k < len
        · have hln' : (k : Int) < len := by omega
          obtain ⟨g, o, rfl, hc, hg⟩ := HP.out.1 k hlt hln
          have hc' : wo.cell? ⟨g, o + k, none⟩ = some (.int .i64 (pk k)) := (World.cell?_of_block (hm.block g (block_lt_of_cell hc) (.inl (by omega)))).trans hc
          have hu := HP.out.2.2.1 k hlt
          have hu' := HP.out.2.2.2 k hlt
          clear hc hd hm
          generalize hz : pk k = z at hc' hu hu'
          have HZ := Lib.hid hz
          clear hz
          go_wp2_with fail
          refine wp_region_still_tail 15 (by kernel_rfl) (by kernel_rfl) ?_
          change wpStill _ _ wo.drew (fun a' => wpList _ _ _ _ a' wo.drew) _ _
          clear hc'
          generalize wo.drew = W2 at *
          simp only [List.take_succ_cons, List.take_zero, List.drop_succ_cons, List.drop_zero]
          repeat still_step
          try refine wpStill_nil ?_
          go_wp2_with fail
          refine (HKD.out z hu hu').mono ?_
          rintro e w2 ⟨rfl, hw2⟩
          subst hw2
          go_wp2_with fail
          go_roundw
          case rel => exact ⟨k + 1, by omega, by go_num, (HKEY.out z HZ.out.symm).1, (HKEY.out z HZ.out.symm).2⟩
          case measure => simp [intOf]; omega
        · have hln' : ¬ (k : Int) < len := by omega
          have hz0 := HP.out.2.1 k hlt (by omega)
          have HZ := Lib.hid hz0
          clear hz0 hd hm
          go_wp2_with fail
          refine wp_region_still_tail 15 (by kernel_rfl) (by kernel_rfl) ?_
          change wpStill _ _ wo.drew (fun a' => wpList _ _ _ _ a' wo.drew) _ _
          generalize wo.drew = W2 at *
          simp only [List.take_succ_cons, List.take_zero, List.drop_succ_cons, List.drop_zero]
          repeat still_step
          try refine wpStill_nil ?_
          go_wp2_with fail
          refine (HKD.out 0 (by omega) (by omega)).mono ?_
          rintro e w2 ⟨rfl, hw2⟩
          subst hw2
          go_wp2_with fail
          go_roundw
          case rel => exact ⟨k + 1, by omega, by go_num, (HKEY.out 0 HZ.out.symm).1, (HKEY.out 0 HZ.out.symm).2⟩
          case measure => simp [intOf]; omega
      · have hk2 : k = 2 := by omega
        subst hk2
        have d5 := hd.left
        have z5 := hd.fz 5
        have d6 := hd.power
        have z6 := hd.fz 6
        have HD := Lib.hid (And.intro ((hd.setPower true).setLeft (-1)) ((hm.set hd.role 6 (.bool true)).set hd.role 5 (.int .i64 (-1))))
        clear hd hm
        go_wp2_with fail
        go_ret
        exact ⟨rfl, ρ, HD.out.1, HD.out.2⟩

/-- one more loose change: its row stands where it stood, or in a new block -/
theorem RefAt.appended {W w1 : World} {ρ : Nat → Nat} {R f : Nat} {d : Rk} {lv v' : Value} {c : Chg} (h : RefAt W ρ R d) (hf : f < 2)
    (c0 : W.cell? ⟨R, 2 * f, none⟩ = some (.string (strOfNums (d.file f).s))) (c1 : W.cell? ⟨R, 2 * f + 1, none⟩ = some lv) (hl : RLo W ρ (6 + f) lv (d.file f).l) (hnn : ∀ n, c = .ct n → 0 ≤ n)
    (hown : w1.ownsRow 0 133 3 v' ((d.file f).l.length + 1) (rcells (d.file f).l ++ rcell c)) (hg : W.grownBy w1 lv.ownBlock) (hfr : ∀ g, v'.ownBlock = some g → lv.ownBlock = some g ∨ g = W.heap.size) :
    ∃ ρ', RefAt (w1.setCell ⟨R, 2 * f + 1, none⟩ v') ρ' R (d.setFile f ⟨(d.file f).s, (d.file f).l ++ [c]⟩) ∧ Mr ρ ρ' W (w1.setCell ⟨R, 2 * f + 1, none⟩ v') := by
  have hlt := h.lt
  have hrole := hl.2.2
  have hsz := hg.size
  let ρ' : Nat → Nat := fun k => if v'.ownBlock = some k then 6 + f else ρ k
  have hρ : ∀ g, g < W.heap.size → ρ g ≠ 6 + f → ρ' g = ρ g := fun g hgl hne => by
    show (if v'.ownBlock = some g then 6 + f else ρ g) = ρ g
    rw [if_neg]
    intro e
    rcases hfr g e with e | e
    · exact hne (hrole g e)
    · omega
  have hheap : ∀ g, g < W.heap.size → ρ g ≠ 6 + f → g ≠ R → (w1.setCell ⟨R, 2 * f + 1, none⟩ v').heap[g]? = W.heap[g]? := fun g hgl hne hD => by
    rw [set_heap hD]
    exact hg.block g hgl fun e => hne (hrole g e.symm)
  have hDw : w1.heap[R]? = W.heap[R]? := hg.block R hlt fun e => by have := hrole R e.symm; have := h.role; omega
  have hcell : ∀ o, o ≠ 2 * f + 1 → (w1.setCell ⟨R, 2 * f + 1, none⟩ v').cell? ⟨R, o, none⟩ = W.cell? ⟨R, o, none⟩ := fun o ho => (set_cell ho).trans (World.cell?_of_block hDw)
  have hfz : ∀ o, (w1.setCell ⟨R, 2 * f + 1, none⟩ v').frozen? ⟨R, o, none⟩ = false := fun o => by rw [set_frozen, World.frozen?_of_block hDw]; exact h.fz o
  have hroleD : ρ' R = 5 := by rw [hρ R hlt (by have := h.role; omega)]; exact h.role
  have hfresh : ∀ k, (w1.setCell ⟨R, 2 * f + 1, none⟩ v').heap.size ≤ k → ρ' k = 0 := fun k hk => by
    rw [set_size] at hk
    show (if v'.ownBlock = some k then 6 + f else ρ k) = 0
    rw [if_neg (fun e => by have := own_lt hown e; omega)]
    exact h.fresh k (by omega)
  have hnew : RFil (w1.setCell ⟨R, 2 * f + 1, none⟩ v') ρ' R f ⟨(d.file f).s, (d.file f).l ++ [c]⟩ := by
    refine ⟨v', (hcell _ (by omega)).trans c0, set_same ((World.cell?_of_block hDw).trans c1), fun n hn => ?_, ?_, ?_⟩
    · rcases List.mem_append.1 hn with hn | hn
      · exact hl.1 n hn
      · have : Chg.ct n = c := by simpa using hn
        exact hnn n this.symm
    · have e : (⟨(d.file f).s, (d.file f).l ++ [c]⟩ : Fil).l.length = (d.file f).l.length + 1 := by simp
      have e2 : rcells (⟨(d.file f).s, (d.file f).l ++ [c]⟩ : Fil).l = rcells (d.file f).l ++ rcell c := by
        show rcells ((d.file f).l ++ [c]) = _
        rw [rcells_app]; simp [rcells]
      rw [e, e2]
      exact own_other hown fun g hgb => set_heap fun e => by
        subst e
        rcases hfr g hgb with e | e
        · have := hrole g e; have := h.role; omega
        · omega
    · intro g hgb
      show (if v'.ownBlock = some g then 6 + f else ρ g) = 6 + f
      rw [if_pos hgb]
  have hoth : ∀ f2, f2 < 2 → f2 ≠ f → RFil (w1.setCell ⟨R, 2 * f + 1, none⟩ v') ρ' R f2 (d.file f2) := fun f2 hf2 hne =>
    (h.file f2 hf2).other (fun g hgl hg => ⟨hρ g hgl (by omega), hheap g hgl (by omega) (fun e => by subst e; have := h.role; omega)⟩) (hcell _ (by omega)) (hcell _ (by omega))
  have b1 : RowKit.Below 0 W w1 := (RowKit.Below.refl 0 W).grown hg (Nat.zero_le _) fun _ _ => Nat.zero_le _
  have hmv : Mr ρ ρ' W w1 := by
    refine ⟨b1.os, b1.tape, b1.output, b1.size, fun g hgl => ?_, fun g hgl hr => hg.block g hgl fun e => by have := hrole g e.symm; omega⟩
    show (if v'.ownBlock = some g then 6 + f else ρ g) = ρ g
    split
    · rename_i e
      rcases hfr g e with e | e
      · exact (hrole g e).symm
      · omega
    · rfl
  refine ⟨ρ', ?_, hmv.set hroleD _ _⟩
  rcases f with _ | _ | f
  · exact ⟨hroleD, hfresh, hnew, hoth 1 (by omega) (by omega), (hcell _ (by omega)).trans h.most, (hcell _ (by omega)).trans h.left, (hcell _ (by omega)).trans h.power, hfz⟩
  · exact ⟨hroleD, hfresh, hoth 0 (by omega) (by omega), hnew, (hcell _ (by omega)).trans h.most, (hcell _ (by omega)).trans h.left, (hcell _ (by omega)).trans h.power, hfz⟩
  · omega
end Go.Proofs.YtfohemgfiidokaaGreatDoor
namespace Go.Proofs.YtfohemgfiidokaaGreatDoor
open Go.RowKit Go.Sort

def Rk.put (d : Rk) (f : Nat) (c : Chg) : Rk := d.setFile f ⟨(d.file f).s, (d.file f).l ++ [c]⟩
def Rk.cut (d : Rk) (f n : Int) : Int × Rk :=
  if rmay d.power f ≠ 0 then (rmay d.power f, d) else if n < 0 ∨ (rstands (d.file f.toNat)).length < n then (1, d) else if d.burn.1 = true then (8, d.burn.2) else (0, d.burn.2.put f.toNat (.ct n))
set_option maxRecDepth 100000 in
set_option maxHeartbeats 1600000 in
theorem rcut_c {w : World} {ρ : Nat → Nat} {R : Nat} {d : Rk} (h : RefAt w ρ R d) (ok : ROk d) (F : Int) (n : Int) :
    Calls Tryz.prog 59 #[.pointer (some ⟨R, 0, none⟩), .int .i64 F, .int .i64 n] w fun e w' => e = .returned (.int .i64 (d.cut F n).1) ∧ RLeft ρ R w (d.cut F n).2 w' := by
  have km := rmay_c h F
  unfold Rk.cut
  have H := Lib.hid h
  by_cases hm : rmay d.power F = 0
  · rw [if_neg (by rw [hm]; simp)]
    rw [hm] at km
    obtain ⟨-, f, hf, rfl⟩ := rmay_zero hm
    have hto : ((f : Int)).toNat = f := Int.toNat_natCast f
    rw [hto]
    clear hto
    have f0 : (0 : Int) ≤ f := by omega
    have f1 : (f : Int) < 2 := by omega
    have ks := fun n => rstands_c (h.keepN n) f hf (ok.file f)
    have hsz := strOfNums_size (rstands (d.file f))
    by_cases hn : n < 0
    · rw [if_pos (.inl hn)]
      clear hm h ks
      go_enter Tryz.func59, Tryz.ntmps59
      go_wp2_with fail
      refine km.mono ?_
      rintro e w1 ⟨rfl, hw1⟩
      subst hw1
      go_wp2_with fail
      go_ret
      exact ⟨rfl, ρ, H.out, Mr.refl ρ _⟩
    have ks0 := rstands_c h f hf (ok.file f)
    generalize hX : rstands (d.file f) = X at *
    have hn' : ¬ n < 0 := hn
    by_cases hr : (X.length : Int) < n
    · rw [if_pos (.inr hr)]
      clear hm h ks
      go_enter Tryz.func59, Tryz.ntmps59
      go_wp2_with fail
      refine km.mono ?_
      rintro e w1 ⟨rfl, hw1⟩
      subst hw1
      go_wp2_with fail
      refine ks0.mono ?_
      rintro e w2 ⟨rfl, q, rfl⟩
      go_wp2_with fail
      go_ret
      exact ⟨rfl, ρ, H.out.keepN q, Mr.ofBelow ρ (below_drewN _ q)⟩
    rw [if_neg (by intro e; rcases e with e | e; exact hn e; exact hr e)]
    have hr' : ¬ (X.length : Int) < n := hr
    have kb := fun q => burns_c (h.keepN q) ok.2.2.2.2
    by_cases hb : d.burn.1 = true
    · rw [if_pos hb]
      rw [hb] at kb
      have KB := Lib.hid kb
      clear kb hb hm h
      go_enter Tryz.func59, Tryz.ntmps59
      go_wp2_with fail
      refine km.mono ?_
      rintro e w1 ⟨rfl, hw1⟩
      subst hw1
      go_wp2_with fail
      refine ks0.mono ?_
      rintro e w2 ⟨rfl, q, rfl⟩
      go_wp2_with fail
      refine (KB.out q).mono ?_
      rintro e w3 ⟨rfl, ρ2, h2, m2⟩
      go_wp2_with fail
      go_ret
      exact ⟨rfl, ρ2, h2, (Mr.ofBelow ρ (below_drewN _ q)).trans m2⟩
    · rw [if_neg hb]
      rw [show d.burn.1 = false by simpa using hb] at kb
      have KB := Lib.hid kb
      have hokb := (burn_ok ok).file f
      clear kb hb hm h
      obtain ⟨i0, hi, hz0, hz1, hz2⟩ := info_parts Tryz.info133
      go_enter Tryz.func59, Tryz.ntmps59
      go_wp2_with fail
      refine km.mono ?_
      rintro e w1 ⟨rfl, hw1⟩
      subst hw1
      go_wp2_with fail
      refine ks0.mono ?_
      rintro e w2 ⟨rfl, q, rfl⟩
      go_wp2_with fail
      refine (KB.out q).mono ?_
      rintro e w2 ⟨rfl, ρ2, h2, m2⟩
      have HM := Lib.hid ((Mr.ofBelow ρ (below_drewN _ q)).trans m2)
      clear m2
      obtain ⟨lv, c0, c1, hl⟩ := h2.file f hf
      obtain ⟨pv, lcv, ccv, rfl⟩ : ∃ p n c, lv = .slice p n c := by
        obtain ⟨p, c, e, -⟩ := hl.loose
        exact ⟨_, _, _, e⟩
      have hll := hokb.2
      go_wp2_with fail
      have c1' : w2.cell? ⟨R, f * 2 + 1, none⟩ = some (.slice pv lcv ccv) := by rw [Nat.mul_comm]; exact c1
      have hbW : Below w2.heap.size w2 (w2.drew.alloc (.cells #[.bool true, .string ⟨#[]⟩, .int .i64 n] 133)) := bel_alloc (Below.refl _ _).drew _
      have hdW := h2.keep hbW
      have hlW : RLo (w2.drew.alloc (.cells #[.bool true, .string ⟨#[]⟩, .int .i64 n] 133)) ρ2 (6 + f) (.slice pv lcv ccv) (d.burn.2.file f).l := ⟨hl.1, ownsRow_keep hl.2.1 hbW, hl.2.2⟩
      have hnews : ∀ j u, ([.bool true, .string ⟨#[]⟩, .int .i64 n] : List Value)[j]? = some u → (w2.drew.alloc (.cells #[.bool true, .string ⟨#[]⟩, .int .i64 n] 133)).cell? ((⟨w2.heap.size, 0, none⟩ : Addr).add j) = some u := fun j u hu => by
        have e : (w2.drew.alloc (.cells #[.bool true, .string ⟨#[]⟩, .int .i64 n] 133)).cell? ⟨w2.heap.size, j, none⟩ = (#[.bool true, .string ⟨#[]⟩, .int .i64 n] : Array Value)[j]? := cell_of_row _ _ j _ _ _ (heap_alloc_new w2.drew _)
        rw [Addr.add_lit, Nat.zero_add, e]
        simpa using hu
      have hlt := h2.lt
      have hfz := h2.fz (f * 2 + 1)
      have HH := Lib.hid (And.intro h2 (And.intro hl (And.intro hdW hlW)))
      clear h2 hl hdW hlW c1
      refine wp_region_last (S := fun w' => w'.cell? ⟨R, f * 2 + 1, none⟩ = some (.slice pv lcv ccv)) 17 (by kernel_rfl) c1' (fun hHeld => ?_)
      refine wpAnyT_take 0 (oi := ?_) (v := ?_) ?_ (by kernel_rfl) (by kernel_rfl) (by kernel_rfl) (by kernel_rfl) (by kernel_rfl) ?_ (Or.inl ⟨?_, ?_⟩) (by assumption) ?_
      rotate_left 2
      · simp only [List.getElem?_toArray, List.getElem?_cons_zero]; rfl
      · exact fun _ _ _ h => h
      · rfl
      · (intro w hSw; (try dsimp only at hSw); go_simp) <;> with_reducible rfl
      try simp only [Act.put, List.setIfInBounds_toArray, List.set_cons_zero, List.set_cons_succ]
      refine wpAnyT_take 1 (oi := ?_) (v := ?_) ?_ (by kernel_rfl) (by kernel_rfl) (by kernel_rfl) (by kernel_rfl) (by kernel_rfl) ?_ (Or.inl ⟨?_, ?_⟩) (by assumption) ?_
      rotate_left 2
      · simp only [List.getElem?_toArray, List.getElem?_cons_succ, List.getElem?_cons_zero]; rfl
      · exact fun _ _ _ h => h
      · rfl
      · (intro w hSw; (try dsimp only at hSw); go_simp) <;> with_reducible rfl
      try simp only [Act.put, List.setIfInBounds_toArray, List.set_cons_zero, List.set_cons_succ]
      refine wpAnyT_take 2 (oi := ?_) (v := ?_) ?_ (by kernel_rfl) (by kernel_rfl) (by kernel_rfl) (by kernel_rfl) (by kernel_rfl) ?_ (Or.inl ⟨?_, ?_⟩) (by assumption) ?_
      rotate_left 2
      · simp only [List.getElem?_toArray, List.getElem?_cons_succ, List.getElem?_cons_zero]; rfl
      · exact fun _ _ _ h => h
      · rfl
      · (intro w hSw; (try dsimp only at hSw); go_simp) <;> with_reducible rfl
      try simp only [Act.put, List.setIfInBounds_toArray, List.set_cons_zero, List.set_cons_succ]
      refine wpAnyT_take 3 (oi := ?_) (v := ?_) ?_ (by kernel_rfl) (by kernel_rfl) (by kernel_rfl) (by kernel_rfl) (by kernel_rfl) ?_ (Or.inl ⟨?_, ?_⟩) (by assumption) ?_
      rotate_left 2
      · simp only [List.getElem?_toArray, List.getElem?_cons_succ, List.getElem?_cons_zero]; rfl
      · exact fun _ _ _ h => h
      · rfl
      · (intro w hSw; (try dsimp only at hSw); go_simp) <;> with_reducible rfl
      try simp only [Act.put, List.setIfInBounds_toArray, List.set_cons_zero, List.set_cons_succ]
      refine wpAnyT_take 4 (oi := ?_) (v := ?_) ?_ (by kernel_rfl) (by kernel_rfl) (by kernel_rfl) (by kernel_rfl) (by kernel_rfl) ?_ (Or.inl ⟨?_, ?_⟩) (by assumption) ?_
      rotate_left 2
      · simp only [List.getElem?_toArray, List.getElem?_cons_succ, List.getElem?_cons_zero]; rfl
      · exact fun _ _ _ h => h
      · rfl
      · (intro w hSw; (try dsimp only at hSw); go_simp) <;> with_reducible rfl
      try simp only [Act.put, List.setIfInBounds_toArray, List.set_cons_zero, List.set_cons_succ]
      refine wpAnyT_take 5 (oi := ?_) (v := ?_) ?_ (by kernel_rfl) (by kernel_rfl) (by kernel_rfl) (by kernel_rfl) (by kernel_rfl) ?_ (Or.inl ⟨?_, ?_⟩) (by assumption) ?_
      rotate_left 2
      · simp only [List.getElem?_toArray, List.getElem?_cons_succ, List.getElem?_cons_zero]; rfl
      · exact fun _ _ _ h => h
      · rfl
      · (intro w hSw; (try dsimp only at hSw); go_simp) <;> with_reducible rfl
      try simp only [Act.put, List.setIfInBounds_toArray, List.set_cons_zero, List.set_cons_succ]
      refine wpAnyT_take 6 (oi := ?_) (v := ?_) ?_ (by kernel_rfl) (by kernel_rfl) (by kernel_rfl) (by kernel_rfl) (by kernel_rfl) ?_ (Or.inl ⟨?_, ?_⟩) (by assumption) ?_
      rotate_left 2
      · simp only [List.getElem?_toArray, List.getElem?_cons_succ, List.getElem?_cons_zero]; rfl
      · exact fun _ _ _ h => h
      · rfl
      · (intro w hSw; (try dsimp only at hSw); go_simp) <;> with_reducible rfl
      try simp only [Act.put, List.setIfInBounds_toArray, List.set_cons_zero, List.set_cons_succ]
      refine wpAnyT_take 7 (oi := ?_) (v := ?_) ?_ (by kernel_rfl) (by kernel_rfl) (by kernel_rfl) (by kernel_rfl) (by kernel_rfl) ?_ (Or.inl ⟨?_, ?_⟩) (by assumption) ?_
      rotate_left 2
      · simp only [List.getElem?_toArray, List.getElem?_cons_succ, List.getElem?_cons_zero]; rfl
      · exact fun _ _ _ h => h
      · rfl
      · (intro w hSw; (try dsimp only at hSw); go_simp) <;> with_reducible rfl
      try simp only [Act.put, List.setIfInBounds_toArray, List.set_cons_zero, List.set_cons_succ]
      refine wpAnyT_take 8 (oi := ?_) (v := ?_) ?_ (by kernel_rfl) (by kernel_rfl) (by kernel_rfl) (by kernel_rfl) (by kernel_rfl) ?_ (Or.inl ⟨?_, ?_⟩) (by assumption) ?_
      rotate_left 2
      · simp only [List.getElem?_toArray, List.getElem?_cons_succ, List.getElem?_cons_zero]; rfl
      · exact fun _ _ _ h => h
      · rfl
      · (intro w hSw; (try dsimp only at hSw); go_simp) <;> with_reducible rfl
      try simp only [Act.put, List.setIfInBounds_toArray, List.set_cons_zero, List.set_cons_succ]
      refine wpAnyT_take 9 (oi := ?_) (v := ?_) ?_ (by kernel_rfl) (by kernel_rfl) (by kernel_rfl) (by kernel_rfl) (by kernel_rfl) ?_ (Or.inl ⟨?_, ?_⟩) (by assumption) ?_
      rotate_left 2
      · simp only [List.getElem?_toArray, List.getElem?_cons_succ, List.getElem?_cons_zero]; rfl
      · exact fun _ _ _ h => h
      · rfl
      · (intro w hSw; (try dsimp only at hSw); go_simp) <;> with_reducible rfl
      try simp only [Act.put, List.setIfInBounds_toArray, List.set_cons_zero, List.set_cons_succ]
      refine wpAnyT_take 10 (oi := ?_) (v := ?_) ?_ (by kernel_rfl) (by kernel_rfl) (by kernel_rfl) (by kernel_rfl) (by kernel_rfl) ?_ (Or.inl ⟨?_, ?_⟩) (by assumption) ?_
      rotate_left 2
      · simp only [List.getElem?_toArray, List.getElem?_cons_succ, List.getElem?_cons_zero]; rfl
      · exact fun _ _ _ h => h
      · rfl
      · (intro w hSw; (try dsimp only at hSw); go_simp) <;> with_reducible rfl
      try simp only [Act.put, List.setIfInBounds_toArray, List.set_cons_zero, List.set_cons_succ]
      refine wpAnyT_take 13 (oi := ?_) (v := ?_) ?_ (by kernel_rfl) (by kernel_rfl) (by kernel_rfl) (by kernel_rfl) (by kernel_rfl) ?_ (Or.inl ⟨?_, ?_⟩) (by assumption) ?_
      rotate_left 2
      · simp only [List.getElem?_toArray, List.getElem?_cons_succ, List.getElem?_cons_zero]; rfl
      · exact fun _ _ _ h => h
      · rfl
      · (intro w hSw; (try dsimp only at hSw); go_simp) <;> with_reducible rfl
      try simp only [Act.put, List.setIfInBounds_toArray, List.set_cons_zero, List.set_cons_succ]
      refine wpAnyT_take 14 (oi := ?_) (v := ?_) ?_ (by kernel_rfl) (by kernel_rfl) (by kernel_rfl) (by kernel_rfl) (by kernel_rfl) ?_ (Or.inl ⟨?_, ?_⟩) (by assumption) ?_
      rotate_left 2
      · simp only [List.getElem?_toArray, List.getElem?_cons_succ, List.getElem?_cons_zero]; rfl
      · exact fun _ _ _ h => h
      · rfl
      · (intro w hSw; (try dsimp only at hSw); go_simp) <;> with_reducible rfl
      try simp only [Act.put, List.setIfInBounds_toArray, List.set_cons_zero, List.set_cons_succ]
      refine wpAnyT_step 11 (o := ?_) (by kernel_rfl) ?_ (fun K hK => ?_)
      rotate_left 1
      · simp only [List.getElem?_toArray, List.getElem?_cons_succ, List.getElem?_cons_zero]; rfl
      go_simp
      refine hK.out _ _ (fun _ => (hbW.cell hlt).trans c1') (fun hH => ?_)
      clear hHeld; have hHeld := hH (by decide); clear hH hK K
      try simp only [Act.put, List.setIfInBounds_toArray, List.set_cons_zero, List.set_cons_succ]
      refine wpAnyT_step 12 (o := ?_) (by kernel_rfl) ?_ (fun K hK => ?_)
      rotate_left 1
      · simp only [List.getElem?_toArray, List.getElem?_cons_succ, List.getElem?_cons_zero]; rfl
      rw [if_pos (by rfl)]
      refine wp_append_fresh _ _ 65 rfl 0 133 i0 (.agg #[.bool false, .string ⟨#[]⟩, .int .i64 0]) 3 32 Tryz.underlying65 hi hz0 hz1 hz2 rfl (by decide) (.slice pv lcv ccv) (d.burn.2.file f).l.length (rcells (d.burn.2.file f).l) rfl HH.out.2.2.2.2.1 ⟨w2.heap.size, 0, none⟩ 1 1 [.bool true, .string ⟨#[]⟩, .int .i64 n] rfl rfl hnews (by simp [Value.oneCell']) (by unfold maxLen; omega) (by omega) (by omega) ?_
      intro v' w1 hown' hgrow hfr
      have hDw := hgrow.block R (by simp; omega) (fun e => by have := HH.out.2.1.2.2 R e.symm; have := HH.out.1.role; omega)
      have d1 : w1.cell? ⟨R, f * 2 + 1, none⟩ = some (.slice pv lcv ccv) := (World.cell?_of_block hDw).trans ((World.cell?_of_block (hbW.block R hlt)).trans c1')
      have z1 : w1.frozen? ⟨R, f * 2 + 1, none⟩ = false := (World.frozen?_of_block hDw).trans (HH.out.2.2.1.fz _)
      obtain ⟨p', cap', rfl⟩ := own_shape hown'
      refine hK.out _ _ (fun _ => d1) (fun hH => ?_)
      clear hHeld; have hHeld := hH (by decide); clear hH hK K
      try simp only [Act.put, List.setIfInBounds_toArray, List.set_cons_zero, List.set_cons_succ]
      refine wpAnyT_take 15 (oi := ?_) (v := ?_) ?_ (by kernel_rfl) (by kernel_rfl) (by kernel_rfl) (by kernel_rfl) (by kernel_rfl) ?_ (Or.inl ⟨?_, ?_⟩) (by assumption) ?_
      rotate_left 2
      · simp only [List.getElem?_toArray, List.getElem?_cons_succ, List.getElem?_cons_zero]; rfl
      · exact fun _ _ _ h => h
      · rfl
      · (intro w hSw; (try dsimp only at hSw); go_simp) <;> with_reducible rfl
      try simp only [Act.put, List.setIfInBounds_toArray, List.set_cons_zero, List.set_cons_succ]
      refine wpAnyT_take 16 (oi := ?_) (v := ?_) ?_ (by kernel_rfl) (by kernel_rfl) (by kernel_rfl) (by kernel_rfl) (by kernel_rfl) ?_ (Or.inl ⟨?_, ?_⟩) (by assumption) ?_
      rotate_left 2
      · simp only [List.getElem?_toArray, List.getElem?_cons_succ, List.getElem?_cons_zero]; rfl
      · exact fun _ _ _ h => h
      · rfl
      · (intro w hSw; (try dsimp only at hSw); go_simp) <;> with_reducible rfl
      try simp only [Act.put, List.setIfInBounds_toArray, List.set_cons_zero, List.set_cons_succ]
      refine wpAnyT_step 17 (o := ?_) (by kernel_rfl) ?_ (fun K hK => ?_)
      rotate_left 1
      · simp only [List.getElem?_toArray, List.getElem?_cons_succ, List.getElem?_cons_zero]; rfl
      go_simp
      refine hK.out _ _ (fun hx => absurd hx (by decide)) (fun _ => ?_)
      clear hHeld hK K
      refine wpAnyT_done (by kernel_rfl) ?_ _
      try simp only [Act.put, List.setIfInBounds_toArray, List.set_cons_zero, List.set_cons_succ]
      go_wp2_with fail
      go_ret
      obtain ⟨ρ', r1, r2⟩ := HH.out.2.2.1.appended (c := .ct n) hf ((hbW.cell hlt).trans c0) (by rw [Nat.mul_comm]; exact (hbW.cell hlt).trans c1') HH.out.2.2.2 (fun m hm => by injection hm with hm; omega) hown' hgrow hfr
      rw [Nat.mul_comm 2 f] at r1 r2
      exact ⟨rfl, ρ', r1, (HM.out.trans (Mr.ofBelow ρ2 hbW)).trans r2⟩
  · rw [if_pos hm]
    generalize rmay d.power F = z at km hm
    clear h
    go_enter Tryz.func59, Tryz.ntmps59
    go_wp2_with fail
    refine km.mono ?_
    rintro e w1 ⟨rfl, hw1⟩
    subst hw1
    go_wp2_with fail
    go_ret
    exact ⟨rfl, ρ, H.out, Mr.refl ρ _⟩
def Rk.write (d : Rk) (f : Int) (b : List Int) : Int × Rk :=
  if rmay d.power f ≠ 0 then (rmay d.power f, d) else if rroomF d < b.length then (7, d) else if d.burn.1 = true then (8, d.burn.2) else (0, d.burn.2.put f.toNat (.wr b))
set_option maxRecDepth 100000 in
set_option maxHeartbeats 1600000 in
theorem rwrite_c {w : World} {ρ : Nat → Nat} {R : Nat} {d : Rk} (h : RefAt w ρ R d) (ok : ROk d) (F : Int) (v : Value) (b : List Int) (hv : RdS w ρ v b) (hbl : b.length ≤ 1000000000) :
    Calls Tryz.prog 63 #[.pointer (some ⟨R, 0, none⟩), .int .i64 F, v] w fun e w' => e = .returned (.int .i64 (d.write F b).1) ∧ RLeft ρ R w (d.write F b).2 w' := by
  obtain ⟨p, cap, rfl⟩ := hv.shape
  have km := rmay_c h F
  unfold Rk.write
  have H := Lib.hid h
  by_cases hm : rmay d.power F = 0
  · rw [if_neg (by rw [hm]; simp)]
    rw [hm] at km
    obtain ⟨-, f, hf, rfl⟩ := rmay_zero hm
    have hto : ((f : Int)).toNat = f := Int.toNat_natCast f
    rw [hto]
    clear hto
    have f0 : (0 : Int) ≤ f := by omega
    have f1 : (f : Int) < 2 := by omega
    have ks0 := rroom_c h ok
    generalize hX : rroomF d = X at *
    by_cases hr : X < (b.length : Int)
    · rw [if_pos hr]
      clear hm h
      go_enter Tryz.func63, Tryz.ntmps63
      go_wp2_with fail
      refine km.mono ?_
      rintro e w1 ⟨rfl, hw1⟩
      subst hw1
      go_wp2_with fail
      refine ks0.mono ?_
      rintro e w2 ⟨rfl, q, rfl⟩
      go_wp2_with fail
      go_ret
      exact ⟨rfl, ρ, H.out.keepN q, Mr.ofBelow ρ (below_drewN _ q)⟩
    rw [if_neg hr]
    have hr' : ¬ X < (b.length : Int) := hr
    have kb := fun q => burns_c (h.keepN q) ok.2.2.2.2
    by_cases hb : d.burn.1 = true
    · rw [if_pos hb]
      rw [hb] at kb
      have KB := Lib.hid kb
      clear kb hb hm h
      go_enter Tryz.func63, Tryz.ntmps63
      go_wp2_with fail
      refine km.mono ?_
      rintro e w1 ⟨rfl, hw1⟩
      subst hw1
      go_wp2_with fail
      refine ks0.mono ?_
      rintro e w2 ⟨rfl, q, rfl⟩
      go_wp2_with fail
      refine (KB.out q).mono ?_
      rintro e w3 ⟨rfl, ρ2, h2, m2⟩
      go_wp2_with fail
      go_ret
      exact ⟨rfl, ρ2, h2, (Mr.ofBelow ρ (below_drewN _ q)).trans m2⟩
    · rw [if_neg hb]
      rw [show d.burn.1 = false by simpa using hb] at kb
      have KB := Lib.hid kb
      have hokb := (burn_ok ok).file f
      clear kb hb hm h
      obtain ⟨i0, hi, hz0, hz1, hz2⟩ := info_parts Tryz.info133
      go_enter Tryz.func63, Tryz.ntmps63
      go_wp2_with fail
      refine km.mono ?_
      rintro e w1 ⟨rfl, hw1⟩
      subst hw1
      go_wp2_with fail
      refine ks0.mono ?_
      rintro e w2 ⟨rfl, q, rfl⟩
      go_wp2_with fail
      refine (KB.out q).mono ?_
      rintro e w2 ⟨rfl, ρ2, h2, m2⟩
      have HM := Lib.hid ((Mr.ofBelow ρ (below_drewN _ q)).trans m2)
      clear m2
      obtain ⟨lv, c0, c1, hl⟩ := h2.file f hf
      obtain ⟨pv, lcv, ccv, rfl⟩ : ∃ p n c, lv = .slice p n c := by
        obtain ⟨p, c, e, -⟩ := hl.loose
        exact ⟨_, _, _, e⟩
      have hll := hokb.2
      have hrd2 : RdS w2 ρ2 (.slice p b.length cap) b := by
        rcases hv with hx | ⟨ax, gx, ox, cx, x1, x2, x3, x4⟩
        · exact .inl hx
        · refine .inr ⟨ax, gx, ox, cx, x1, x2, fun h0 => ⟨(x3 h0).1, (HM.out.role gx (block_lt_of_cell (x4 0 h0))).trans (x3 h0).2⟩, fun j hj => ?_⟩
          rw [World.cell?_of_block (HM.out.block gx (block_lt_of_cell (x4 j hj)) (.inl (by rw [(x3 (by omega)).2]; omega)))]
          exact x4 j hj
      have HRD := Lib.hid hrd2
      have HV := Lib.hid (fun W (hW : Below w2.heap.size w2 W) => rd_text (hrd2.rdb.keep hW))
      clear hv hrd2
      go_wp2_with fail
      have c1' : w2.cell? ⟨R, f * 2 + 1, none⟩ = some (.slice pv lcv ccv) := by rw [Nat.mul_comm]; exact c1
      have hbW : Below w2.heap.size w2 (w2.drew.alloc (.cells #[.bool false, .string (strOfNums b), .int .i64 0] 133)) := bel_alloc (Below.refl _ _).drew _
      have hdW := h2.keep hbW
      have hlW : RLo (w2.drew.alloc (.cells #[.bool false, .string (strOfNums b), .int .i64 0] 133)) ρ2 (6 + f) (.slice pv lcv ccv) (d.burn.2.file f).l := ⟨hl.1, ownsRow_keep hl.2.1 hbW, hl.2.2⟩
      have hnews : ∀ j u, ([.bool false, .string (strOfNums b), .int .i64 0] : List Value)[j]? = some u → (w2.drew.alloc (.cells #[.bool false, .string (strOfNums b), .int .i64 0] 133)).cell? ((⟨w2.heap.size, 0, none⟩ : Addr).add j) = some u := fun j u hu => by
        have e : (w2.drew.alloc (.cells #[.bool false, .string (strOfNums b), .int .i64 0] 133)).cell? ⟨w2.heap.size, j, none⟩ = (#[.bool false, .string (strOfNums b), .int .i64 0] : Array Value)[j]? := cell_of_row _ _ j _ _ _ (heap_alloc_new w2.drew _)
        rw [Addr.add_lit, Nat.zero_add, e]
        simpa using hu
      have hlt := h2.lt
      have hfz := h2.fz (f * 2 + 1)
      have HH := Lib.hid (And.intro h2 (And.intro hl (And.intro hdW hlW)))
      clear h2 hl hdW hlW c1
      refine wp_region_last (S := fun w' => w'.cell? ⟨R, f * 2 + 1, none⟩ = some (.slice pv lcv ccv) ∧ (convert 40 9 (.slice p b.length cap)).run Tryz.prog w' = .ok (.string (strOfNums b)) w') 18 (by kernel_rfl) ⟨c1', HV.out _ (Below.refl _ _).drew⟩ (fun hHeld => ?_)
      refine wpAnyT_take 0 (oi := ?_) (v := ?_) ?_ (by kernel_rfl) (by kernel_rfl) (by kernel_rfl) (by kernel_rfl) (by kernel_rfl) ?_ (Or.inl ⟨?_, ?_⟩) (by assumption) ?_
      rotate_left 2
      · simp only [List.getElem?_toArray, List.getElem?_cons_zero]; rfl
      · exact fun _ _ _ h => h
      · rfl
      · (intro w hSw; (try dsimp only at hSw); go_simp) <;> with_reducible rfl
      try simp only [Act.put, List.setIfInBounds_toArray, List.set_cons_zero, List.set_cons_succ]
      refine wpAnyT_take 1 (oi := ?_) (v := ?_) ?_ (by kernel_rfl) (by kernel_rfl) (by kernel_rfl) (by kernel_rfl) (by kernel_rfl) ?_ (Or.inl ⟨?_, ?_⟩) (by assumption) ?_
      rotate_left 2
      · simp only [List.getElem?_toArray, List.getElem?_cons_succ, List.getElem?_cons_zero]; rfl
      · exact fun _ _ _ h => h
      · rfl
      · (intro w hSw; (try dsimp only at hSw); go_simp) <;> with_reducible rfl
      try simp only [Act.put, List.setIfInBounds_toArray, List.set_cons_zero, List.set_cons_succ]
      refine wpAnyT_take 2 (oi := ?_) (v := ?_) ?_ (by kernel_rfl) (by kernel_rfl) (by kernel_rfl) (by kernel_rfl) (by kernel_rfl) ?_ (Or.inl ⟨?_, ?_⟩) (by assumption) ?_
      rotate_left 2
      · simp only [List.getElem?_toArray, List.getElem?_cons_succ, List.getElem?_cons_zero]; rfl
      · exact fun _ _ _ h => h
      · rfl
      · (intro w hSw; (try dsimp only at hSw); go_simp) <;> with_reducible rfl
      try simp only [Act.put, List.setIfInBounds_toArray, List.set_cons_zero, List.set_cons_succ]
      refine wpAnyT_take 3 (oi := ?_) (v := ?_) ?_ (by kernel_rfl) (by kernel_rfl) (by kernel_rfl) (by kernel_rfl) (by kernel_rfl) ?_ (Or.inl ⟨?_, ?_⟩) (by assumption) ?_
      rotate_left 2
      · simp only [List.getElem?_toArray, List.getElem?_cons_succ, List.getElem?_cons_zero]; rfl
      · exact fun _ _ _ h => h
      · rfl
      · (intro w hSw; (try dsimp only at hSw); go_simp) <;> with_reducible rfl
      try simp only [Act.put, List.setIfInBounds_toArray, List.set_cons_zero, List.set_cons_succ]
      refine wpAnyT_take 4 (oi := ?_) (v := ?_) ?_ (by kernel_rfl) (by kernel_rfl) (by kernel_rfl) (by kernel_rfl) (by kernel_rfl) ?_ (Or.inl ⟨?_, ?_⟩) (by assumption) ?_
      rotate_left 2
      · simp only [List.getElem?_toArray, List.getElem?_cons_succ, List.getElem?_cons_zero]; rfl
      · exact fun _ _ _ h => h
      · rfl
      · (intro w hSw; (try dsimp only at hSw); go_simp) <;> with_reducible rfl
      try simp only [Act.put, List.setIfInBounds_toArray, List.set_cons_zero, List.set_cons_succ]
      refine wpAnyT_take 5 (oi := ?_) (v := ?_) ?_ (by kernel_rfl) (by kernel_rfl) (by kernel_rfl) (by kernel_rfl) (by kernel_rfl) ?_ (Or.inl ⟨?_, ?_⟩) (by assumption) ?_
      rotate_left 2
      · simp only [List.getElem?_toArray, List.getElem?_cons_succ, List.getElem?_cons_zero]; rfl
      · exact fun _ _ _ h => h
      · rfl
      · (intro w hSw; (try dsimp only at hSw); go_simp) <;> with_reducible rfl
      try simp only [Act.put, List.setIfInBounds_toArray, List.set_cons_zero, List.set_cons_succ]
      refine wpAnyT_take 6 (oi := ?_) (v := ?_) ?_ (by kernel_rfl) (by kernel_rfl) (by kernel_rfl) (by kernel_rfl) (by kernel_rfl) ?_ (Or.inl ⟨?_, ?_⟩) (by assumption) ?_
      rotate_left 2
      · simp only [List.getElem?_toArray, List.getElem?_cons_succ, List.getElem?_cons_zero]; rfl
      · exact fun _ _ _ h => h
      · rfl
      · (intro w hSw; (try dsimp only at hSw); go_simp) <;> with_reducible rfl
      try simp only [Act.put, List.setIfInBounds_toArray, List.set_cons_zero, List.set_cons_succ]
      refine wpAnyT_take 7 (oi := ?_) (v := ?_) ?_ (by kernel_rfl) (by kernel_rfl) (by kernel_rfl) (by kernel_rfl) (by kernel_rfl) ?_ (Or.inl ⟨?_, ?_⟩) (by assumption) ?_
      rotate_left 2
      · simp only [List.getElem?_toArray, List.getElem?_cons_succ, List.getElem?_cons_zero]; rfl
      · exact fun _ _ _ h => h
      · rfl
      · (intro w hSw; (try dsimp only at hSw); go_simp) <;> with_reducible rfl
      try simp only [Act.put, List.setIfInBounds_toArray, List.set_cons_zero, List.set_cons_succ]
      refine wpAnyT_take 8 (oi := ?_) (v := ?_) ?_ (by kernel_rfl) (by kernel_rfl) (by kernel_rfl) (by kernel_rfl) (by kernel_rfl) ?_ (Or.inl ⟨?_, ?_⟩) (by assumption) ?_
      rotate_left 2
      · simp only [List.getElem?_toArray, List.getElem?_cons_succ, List.getElem?_cons_zero]; rfl
      · exact fun _ _ _ h => h
      · rfl
      · (intro w hSw; (try dsimp only at hSw); go_simp) <;> with_reducible rfl
      try simp only [Act.put, List.setIfInBounds_toArray, List.set_cons_zero, List.set_cons_succ]
      refine wpAnyT_take 9 (oi := ?_) (v := ?_) ?_ (by kernel_rfl) (by kernel_rfl) (by kernel_rfl) (by kernel_rfl) (by kernel_rfl) ?_ (Or.inl ⟨?_, ?_⟩) (by assumption) ?_
      rotate_left 2
      · simp only [List.getElem?_toArray, List.getElem?_cons_succ, List.getElem?_cons_zero]; rfl
      · exact fun _ _ _ h => h
      · rfl
      · (intro w hSw; (try dsimp only at hSw); go_simp) <;> with_reducible rfl
      try simp only [Act.put, List.setIfInBounds_toArray, List.set_cons_zero, List.set_cons_succ]
      refine wpAnyT_take 10 (oi := ?_) (v := ?_) ?_ (by kernel_rfl) (by kernel_rfl) (by kernel_rfl) (by kernel_rfl) (by kernel_rfl) ?_ (Or.inl ⟨?_, ?_⟩) (by assumption) ?_
      rotate_left 2
      · simp only [List.getElem?_toArray, List.getElem?_cons_succ, List.getElem?_cons_zero]; rfl
      · exact fun _ _ _ h => h
      · rfl
      · (intro w hSw; (try dsimp only at hSw); go_simp) <;> with_reducible rfl
      try simp only [Act.put, List.setIfInBounds_toArray, List.set_cons_zero, List.set_cons_succ]
      refine wpAnyT_take 11 (oi := ?_) (v := ?_) ?_ (by kernel_rfl) (by kernel_rfl) (by kernel_rfl) (by kernel_rfl) (by kernel_rfl) ?_ (Or.inl ⟨?_, ?_⟩) (by assumption) ?_
      rotate_left 2
      · simp only [List.getElem?_toArray, List.getElem?_cons_succ, List.getElem?_cons_zero]; rfl
      · exact fun _ _ _ h => h
      · rfl
      · (intro w hSw; (try dsimp only at hSw); go_simp) <;> with_reducible rfl
      try simp only [Act.put, List.setIfInBounds_toArray, List.set_cons_zero, List.set_cons_succ]
      refine wpAnyT_take 14 (oi := ?_) (v := ?_) ?_ (by kernel_rfl) (by kernel_rfl) (by kernel_rfl) (by kernel_rfl) (by kernel_rfl) ?_ (Or.inl ⟨?_, ?_⟩) (by assumption) ?_
      rotate_left 2
      · simp only [List.getElem?_toArray, List.getElem?_cons_succ, List.getElem?_cons_zero]; rfl
      · exact fun _ _ _ h => h
      · rfl
      · (intro w hSw; (try dsimp only at hSw); go_simp) <;> with_reducible rfl
      try simp only [Act.put, List.setIfInBounds_toArray, List.set_cons_zero, List.set_cons_succ]
      refine wpAnyT_take 15 (oi := ?_) (v := ?_) ?_ (by kernel_rfl) (by kernel_rfl) (by kernel_rfl) (by kernel_rfl) (by kernel_rfl) ?_ (Or.inl ⟨?_, ?_⟩) (by assumption) ?_
      rotate_left 2
      · simp only [List.getElem?_toArray, List.getElem?_cons_succ, List.getElem?_cons_zero]; rfl
      · exact fun _ _ _ h => h
      · rfl
      · (intro w hSw; (try dsimp only at hSw); go_simp) <;> with_reducible rfl
      try simp only [Act.put, List.setIfInBounds_toArray, List.set_cons_zero, List.set_cons_succ]
      refine wpAnyT_step 12 (o := ?_) (by kernel_rfl) ?_ (fun K hK => ?_)
      rotate_left 1
      · simp only [List.getElem?_toArray, List.getElem?_cons_succ, List.getElem?_cons_zero]; rfl
      go_simp
      refine hK.out _ _ (fun _ => ⟨(hbW.cell hlt).trans c1', HV.out _ hbW⟩) (fun hH => ?_)
      clear hHeld; have hHeld := hH (by decide); clear hH hK K
      try simp only [Act.put, List.setIfInBounds_toArray, List.set_cons_zero, List.set_cons_succ]
      refine wpAnyT_step 13 (o := ?_) (by kernel_rfl) ?_ (fun K hK => ?_)
      rotate_left 1
      · simp only [List.getElem?_toArray, List.getElem?_cons_succ, List.getElem?_cons_zero]; rfl
      rw [if_pos (by rfl)]
      refine wp_append_fresh _ _ 65 rfl 0 133 i0 (.agg #[.bool false, .string ⟨#[]⟩, .int .i64 0]) 3 32 Tryz.underlying65 hi hz0 hz1 hz2 rfl (by decide) (.slice pv lcv ccv) (d.burn.2.file f).l.length (rcells (d.burn.2.file f).l) rfl HH.out.2.2.2.2.1 ⟨w2.heap.size, 0, none⟩ 1 1 [.bool false, .string (strOfNums b), .int .i64 0] rfl rfl hnews (by simp [Value.oneCell']) (by unfold maxLen; omega) (by omega) (by omega) ?_
      intro v' w1 hown' hgrow hfr
      have hDw := hgrow.block R (by simp; omega) (fun e => by have := HH.out.2.1.2.2 R e.symm; have := HH.out.1.role; omega)
      have d1 : w1.cell? ⟨R, f * 2 + 1, none⟩ = some (.slice pv lcv ccv) := (World.cell?_of_block hDw).trans ((World.cell?_of_block (hbW.block R hlt)).trans c1')
      have z1 : w1.frozen? ⟨R, f * 2 + 1, none⟩ = false := (World.frozen?_of_block hDw).trans (HH.out.2.2.1.fz _)
      have hcv1 : (convert 40 9 (.slice p b.length cap)).run Tryz.prog w1 = .ok (.string (strOfNums b)) w1 := by
        refine rd_text ?_
        rcases HRD.out with hx | ⟨ax, gx, ox, cx, x1, x2, x3, x4⟩
        · exact .inl hx
        · refine .inr ⟨ax, gx, ox, cx, x1, x2, fun h0 => (x3 h0).1, fun j hj => ?_⟩
          have hg0 := (x3 (by omega)).2
          have hcx := x4 j hj
          have hgl : gx < w2.heap.size := block_lt_of_cell hcx
          rw [World.cell?_of_block (hgrow.block gx (by simp; omega) (fun e => by have := HH.out.2.2.2.2.2 gx e.symm; omega)), World.cell?_of_block (hbW.block gx hgl)]
          exact hcx
      obtain ⟨p', cap', rfl⟩ := own_shape hown'
      refine hK.out _ _ (fun _ => ⟨d1, hcv1⟩) (fun hH => ?_)
      clear hHeld; have hHeld := hH (by decide); clear hH hK K
      try simp only [Act.put, List.setIfInBounds_toArray, List.set_cons_zero, List.set_cons_succ]
      refine wpAnyT_take 16 (oi := ?_) (v := ?_) ?_ (by kernel_rfl) (by kernel_rfl) (by kernel_rfl) (by kernel_rfl) (by kernel_rfl) ?_ (Or.inl ⟨?_, ?_⟩) (by assumption) ?_
      rotate_left 2
      · simp only [List.getElem?_toArray, List.getElem?_cons_succ, List.getElem?_cons_zero]; rfl
      · exact fun _ _ _ h => h
      · rfl
      · (intro w hSw; (try dsimp only at hSw); go_simp) <;> with_reducible rfl
      try simp only [Act.put, List.setIfInBounds_toArray, List.set_cons_zero, List.set_cons_succ]
      refine wpAnyT_take 17 (oi := ?_) (v := ?_) ?_ (by kernel_rfl) (by kernel_rfl) (by kernel_rfl) (by kernel_rfl) (by kernel_rfl) ?_ (Or.inl ⟨?_, ?_⟩) (by assumption) ?_
      rotate_left 2
      · simp only [List.getElem?_toArray, List.getElem?_cons_succ, List.getElem?_cons_zero]; rfl
      · exact fun _ _ _ h => h
      · rfl
      · (intro w hSw; (try dsimp only at hSw); go_simp) <;> with_reducible rfl
      try simp only [Act.put, List.setIfInBounds_toArray, List.set_cons_zero, List.set_cons_succ]
      refine wpAnyT_step 18 (o := ?_) (by kernel_rfl) ?_ (fun K hK => ?_)
      rotate_left 1
      · simp only [List.getElem?_toArray, List.getElem?_cons_succ, List.getElem?_cons_zero]; rfl
      go_simp
      refine hK.out _ _ (fun hx => absurd hx (by decide)) (fun _ => ?_)
      clear hHeld hK K
      refine wpAnyT_done (by kernel_rfl) ?_ _
      try simp only [Act.put, List.setIfInBounds_toArray, List.set_cons_zero, List.set_cons_succ]
      go_wp2_with fail
      go_ret
      obtain ⟨ρ', r1, r2⟩ := HH.out.2.2.1.appended (c := .wr b) hf ((hbW.cell hlt).trans c0) (by rw [Nat.mul_comm]; exact (hbW.cell hlt).trans c1') HH.out.2.2.2 (fun m hm => by cases hm) hown' hgrow hfr
      rw [Nat.mul_comm 2 f] at r1 r2
      exact ⟨rfl, ρ', r1, (HM.out.trans (Mr.ofBelow ρ2 hbW)).trans r2⟩
  · rw [if_pos hm]
    generalize rmay d.power F = z at km hm
    clear h
    go_enter Tryz.func63, Tryz.ntmps63
    go_wp2_with fail
    refine km.mono ?_
    rintro e w1 ⟨rfl, hw1⟩
    subst hw1
    go_wp2_with fail
    go_ret
    exact ⟨rfl, ρ, H.out, Mr.refl ρ _⟩
end Go.Proofs.YtfohemgfiidokaaGreatDoor
namespace Go.Proofs.YtfohemgfiidokaaGreatDoor
open Go.RowKit Go.Sort

theorem set_flags (d : Dk) (f : Nat) (F : Fil) : (d.setFile f F).off = d.off ∧ (d.setFile f F).fused = d.fused ∧ (d.setFile f F).most = d.most ∧ (d.setFile f F).left = d.left := by rcases f with _ | f <;> exact ⟨rfl, rfl, rfl, rfl⟩
def unitsL : List Chg → Int
  | [] => 0
  | c :: t => c.units + unitsL t
theorem units_nonneg : ∀ l : List Chg, 0 ≤ unitsL l ∧ unitsL l ≤ sizes l + l.length
  | [] => by simp [unitsL, sizes]
  | c :: t => by
    have := units_nonneg t
    cases c with
    | wr b => simp only [unitsL, Chg.units, sizes, Chg.size, List.length_cons]; omega
    | ct n => simp only [unitsL, Chg.units, sizes, Chg.size, List.length_cons]; omega
theorem keptF_big : ∀ (l : List Chg) (b : List Int) (u u' : Int), unitsL l < u → unitsL l < u' → keptF b u l = keptF b u' l
  | [], b, u, u', _, _ => rfl
  | c :: t, b, u, u', h, h' => by
    have hn := units_nonneg t
    have hc : 0 ≤ c.units := by cases c with
      | wr b => simp only [Chg.units]; omega
      | ct n => simp only [Chg.units]; omega
    simp only [unitsL] at h h'
    simp only [keptF]
    rw [if_neg (by omega), if_neg (by omega)]
    have hd : c.done b u = c.done b u' := by
      cases c with
      | wr x => simp only [Chg.units] at h h'; simp only [Chg.done]; rw [List.take_of_length_le (by omega), List.take_of_length_le (by omega)]
      | ct n => rfl
    rw [hd]
    exact keptF_big t _ _ _ (by omega) (by omega)
structure Rel (d : Dk) (r : Rk) (k m : Nat) : Prop where
  file : ∀ f, r.file f = d.file f
  most : r.most = d.most
  power : r.power = !d.off
  fz : d.fused = true → r.left = d.left ∧ 0 ≤ d.left ∧ d.left ≤ 9223372036854775807
  nf : d.fused = false → r.left < 0
  z : ∀ f, (d.file f).s.length + sizes (d.file f).l ≤ m
  l : ∀ f, (d.file f).l.length ≤ k
  m0 : 0 ≤ d.most
  m1 : d.most ≤ 4194304
theorem Rel.ok {d : Dk} {r : Rk} {k m : Nat} (h : Rel d r k m) (hk : k ≤ 1000000) (hm : m ≤ 1000000) : DOk d ∧ ROk r := by
  have z0 := h.z 0; have z1 := h.z 1; have l0 := h.l 0; have l1 := h.l 1; have a := h.m0; have b := h.m1; have c := h.most
  have f0 : r.f0 = d.f0 := h.file 0
  have f1 : r.f1 = d.f1 := h.file 1
  have s0 : Small d.f0 := ⟨Nat.le_trans z0 (by omega), Nat.le_trans l0 (by omega)⟩
  have s1 : Small d.f1 := ⟨Nat.le_trans z1 (by omega), Nat.le_trans l1 (by omega)⟩
  refine ⟨⟨s0, s1, a, b⟩, by rw [f0]; exact s0, by rw [f1]; exact s1, by omega, by omega, ?_⟩
  cases hf : d.fused
  · have := h.nf hf; omega
  · have := h.fz hf; omega
theorem Rel.stands {d : Dk} {r : Rk} {k m : Nat} (h : Rel d r k m) (hk : k ≤ 1000000) (hm : m ≤ 1000000) (f : Nat) : rstands (r.file f) = (d.file f).stands := by
  rw [h.file f]
  have hz := h.z f
  have hl := h.l f
  have hu := (units_nonneg (d.file f).l).2
  unfold rstands
  rw [refF_kept]
  exact keptF_big _ _ _ _ (by omega) (by omega)
theorem Rel.room {d : Dk} {r : Rk} {k m : Nat} (h : Rel d r k m) (hk : k ≤ 1000000) (hm : m ≤ 1000000) : rroomF r = roomF d := by
  have a : rstands r.f0 = d.f0.stands := h.stands hk hm 0
  have b : rstands r.f1 = d.f1.stands := h.stands hk hm 1
  unfold rroomF roomF
  rw [a, b, h.most]
theorem Rel.may {d : Dk} {r : Rk} {k m : Nat} (h : Rel d r k m) (f : Int) : rmay r.power f = mayv d.off f := by
  rw [h.power]
  unfold rmay mayv
  cases d.off
  · simp only [Bool.not_false]
    by_cases hf : f < 0 ∨ 2 ≤ f
    · rw [if_neg (by simp), if_pos (by omega), if_neg (by simp), if_pos hf]
    · rw [if_neg (by simp), if_neg (by omega), if_neg (by simp), if_neg hf]
  · simp
theorem Rel.up {d : Dk} {r : Rk} {k m k' m' : Nat} (h : Rel d r k m) (hk : k ≤ k') (hm : m ≤ m') : Rel d r k' m' := ⟨h.file, h.most, h.power, h.fz, h.nf, fun f => Nat.le_trans (h.z f) hm, fun f => Nat.le_trans (h.l f) hk, h.m0, h.m1⟩
theorem rset_file (d : Rk) (f j : Nat) (F : Fil) : (f = 0 ↔ j = 0) ∧ (d.setFile f F).file j = F ∨ ¬(f = 0 ↔ j = 0) ∧ (d.setFile f F).file j = d.file j := by
  rcases f with _ | f <;> rcases j with _ | j
  · exact .inl ⟨by simp, rfl⟩
  · exact .inr ⟨by simp, rfl⟩
  · exact .inr ⟨by simp, rfl⟩
  · exact .inl ⟨by simp, rfl⟩
theorem dset_file (d : Dk) (f j : Nat) (F : Fil) : (f = 0 ↔ j = 0) ∧ (d.setFile f F).file j = F ∨ ¬(f = 0 ↔ j = 0) ∧ (d.setFile f F).file j = d.file j := by
  rcases f with _ | f <;> rcases j with _ | j
  · exact .inl ⟨by simp, rfl⟩
  · exact .inr ⟨by simp, rfl⟩
  · exact .inr ⟨by simp, rfl⟩
  · exact .inl ⟨by simp, rfl⟩
theorem rset_flags (d : Rk) (f : Nat) (F : Fil) : (d.setFile f F).most = d.most ∧ (d.setFile f F).left = d.left ∧ (d.setFile f F).power = d.power := by rcases f with _ | f <;> exact ⟨rfl, rfl, rfl⟩
/-- the same file set in both -/
theorem Rel.setFile {d : Dk} {r : Rk} {k m : Nat} (h : Rel d r k m) (f : Nat) (F : Fil) (hz : F.s.length + sizes F.l ≤ m) (hl : F.l.length ≤ k) : Rel (d.setFile f F) (r.setFile f F) k m := by
  obtain ⟨a1, a2, a3, a4⟩ := set_flags d f F
  obtain ⟨b1, b2, b3⟩ := rset_flags r f F
  refine ⟨fun j => ?_, by rw [b1, a3]; exact h.most, by rw [b3, a1]; exact h.power, fun e => ?_, fun e => ?_, fun j => ?_, fun j => ?_, by rw [a3]; exact h.m0, by rw [a3]; exact h.m1⟩
  · rcases rset_file r f j F with ⟨e1, e2⟩ | ⟨e1, e2⟩ <;> rcases dset_file d f j F with ⟨e3, e4⟩ | ⟨e3, e4⟩
    · rw [e2, e4]
    · exact absurd e1 e3
    · exact absurd e3 e1
    · rw [e2, e4]; exact h.file j
  · rw [b2, a4]; exact h.fz (by rw [← a2]; exact e)
  · rw [b2]; exact h.nf (by rw [← a2]; exact e)
  · rcases dset_file d f j F with ⟨e3, e4⟩ | ⟨e3, e4⟩
    · rw [e4]; exact hz
    · rw [e4]; exact h.z j
  · rcases dset_file d f j F with ⟨e3, e4⟩ | ⟨e3, e4⟩
    · rw [e4]; exact hl
    · rw [e4]; exact h.l j
/-- a counted call -/
theorem Rel.goes {d : Dk} {r : Rk} {k m k' m' : Nat} (h : Rel d r k m) (g : Dk → Dk) (g' : Rk → Rk) (hk : k ≤ k') (hm : m ≤ m') (hg : Rel d.tick r.burn.2 k m → Rel (g d.tick) (g' r.burn.2) k' m') :
    (d.goes g).1 = (if r.burn.1 = true then 8 else 0) ∧ Rel (d.goes g).2 (if r.burn.1 = true then r.burn.2 else g' r.burn.2) k' m' := by
  unfold Dk.goes
  by_cases hb : d.fused = true ∧ d.left = 0
  · have hl := (h.fz hb.1).1
    have e : r.burn = (true, { r with power := false }) := by unfold Rk.burn; rw [if_pos (by omega)]
    rw [if_pos hb, e, if_pos rfl, if_pos rfl]
    exact ⟨rfl, (⟨h.file, h.most, rfl, h.fz, h.nf, h.z, h.l, h.m0, h.m1⟩ : Rel { d with off := true } { r with power := false } k m).up hk hm⟩
  · rw [if_neg hb]
    have e : r.burn.1 = false ∧ Rel d.tick r.burn.2 k m := by
      unfold Rk.burn
      cases hf : d.fused
      · have hn := h.nf hf
        rw [if_neg (by omega)]
        refine ⟨rfl, ?_⟩
        show Rel d.tick (if 0 < r.left then _ else r) k m
        rw [if_neg (by omega)]
        refine ⟨fun f => ?_, h.most, h.power, fun e => ?_, fun _ => hn, fun f => ?_, fun f => ?_, h.m0, h.m1⟩
        · rw [tick_file]; exact h.file f
        · have e' : d.fused = true := e
          rw [hf] at e'; cases e'
        · rw [tick_file]; exact h.z f
        · rw [tick_file]; exact h.l f
      · obtain ⟨h1, h2, h3⟩ := h.fz hf
        have hne : d.left ≠ 0 := fun e => hb ⟨hf, e⟩
        rw [if_neg (by omega)]
        refine ⟨rfl, ?_⟩
        show Rel d.tick (if 0 < r.left then { r with left := r.left - 1 } else r) k m
        rw [if_pos (by omega)]
        have hw : IntKind.i64.wrap (d.left - 1) = d.left - 1 := by rw [IntKind.wrap_i64]; omega
        refine ⟨fun f => ?_, h.most, h.power, fun _ => ?_, fun e => ?_, fun f => ?_, fun f => ?_, h.m0, h.m1⟩
        · rw [tick_file]; rcases f with _ | f; exact h.file 0; exact h.file 1
        · show r.left - 1 = IntKind.i64.wrap (d.left - 1) ∧ 0 ≤ IntKind.i64.wrap (d.left - 1) ∧ IntKind.i64.wrap (d.left - 1) ≤ _
          rw [hw]; omega
        · have e' : d.fused = false := e
          rw [hf] at e'; cases e'
        · rw [tick_file]; exact h.z f
        · rw [tick_file]; exact h.l f
    rw [e.1]
    exact ⟨by rw [if_neg (by simp)], by rw [if_neg (by simp)]; exact hg e.2⟩
theorem Rel.put {d : Dk} {r : Rk} {k m : Nat} (h : Rel d r k m) (f : Nat) (c : Chg) : Rel (d.put f c) (r.put f c) (k + 1) (m + c.size) := by
  have e : r.put f c = r.setFile f ⟨(d.file f).s, (d.file f).l ++ [c]⟩ := by unfold Rk.put; rw [h.file f]
  rw [e]
  have hz := h.z f
  have hl := h.l f
  refine (h.up (Nat.le_succ k) (Nat.le_add_right m c.size)).setFile f _ ?_ ?_
  · show (d.file f).s.length + sizes ((d.file f).l ++ [c]) ≤ _
    rw [sizes_snoc]; omega
  · show ((d.file f).l ++ [c]).length ≤ _
    simp; omega
theorem may_offR {off : Bool} {f : Int} (h : mayv off f = 0) : off = false := (may_zero h).1
theorem Rel.write {d : Dk} {r : Rk} {k m : Nat} (h : Rel d r k m) (hk : k ≤ 1000000) (hm : m ≤ 1000000) (f : Int) (b : List Int) : (d.write f b).1 = (r.write f b).1 ∧ Rel (d.write f b).2 (r.write f b).2 (k + 1) (m + b.length) := by
  have same := h.up (Nat.le_succ k) (Nat.le_add_right m b.length)
  unfold Dk.write Rk.write
  rw [h.may f, h.room hk hm]
  by_cases hmv : mayv d.off f = 0
  · rw [if_neg (show ¬ mayv d.off f ≠ 0 by simp [hmv]), if_neg (show ¬ mayv d.off f ≠ 0 by simp [hmv])]
    by_cases hr : roomF d < b.length
    · rw [if_pos hr, if_pos hr]; exact ⟨rfl, same⟩
    · rw [if_neg hr, if_neg hr]
      have := h.goes (fun d => d.put f.toNat (.wr b)) (fun r => r.put f.toNat (.wr b)) (Nat.le_succ k) (Nat.le_add_right m b.length) (fun h2 => h2.put f.toNat (.wr b))
      cases hb : r.burn.1
      · rw [hb] at this; simpa using this
      · rw [hb] at this; simpa using this
  · rw [if_pos (show mayv d.off f ≠ 0 from hmv), if_pos (show mayv d.off f ≠ 0 from hmv)]; exact ⟨rfl, same⟩
theorem Rel.cut {d : Dk} {r : Rk} {k m : Nat} (h : Rel d r k m) (hk : k ≤ 1000000) (hm : m ≤ 1000000) (f n : Int) : (d.cut f n).1 = (r.cut f n).1 ∧ Rel (d.cut f n).2 (r.cut f n).2 (k + 1) m := by
  have same := h.up (Nat.le_succ k) (Nat.le_refl m)
  unfold Dk.cut Rk.cut
  rw [h.may f, h.stands hk hm]
  by_cases hmv : mayv d.off f = 0
  · rw [if_neg (show ¬ mayv d.off f ≠ 0 by simp [hmv]), if_neg (show ¬ mayv d.off f ≠ 0 by simp [hmv])]
    by_cases hr : n < 0 ∨ ((d.file f.toNat).stands.length : Int) < n
    · rw [if_pos hr, if_pos hr]; exact ⟨rfl, same⟩
    · rw [if_neg hr, if_neg hr]
      have := h.goes (fun d => d.put f.toNat (.ct n)) (fun r => r.put f.toNat (.ct n)) (Nat.le_succ k) (Nat.le_refl m) (fun h2 => h2.put f.toNat (.ct n))
      cases hb : r.burn.1
      · rw [hb] at this; simpa using this
      · rw [hb] at this; simpa using this
  · rw [if_pos (show mayv d.off f ≠ 0 from hmv), if_pos (show mayv d.off f ≠ 0 from hmv)]; exact ⟨rfl, same⟩
theorem Rel.sync {d : Dk} {r : Rk} {k m : Nat} (h : Rel d r k m) (hk : k ≤ 1000000) (hm : m ≤ 1000000) (f : Int) : (d.sync f).1 = (r.sync f).1 ∧ Rel (d.sync f).2 (r.sync f).2 k m := by
  unfold Dk.sync Rk.sync
  rw [h.may f, h.stands hk hm]
  have hst := stands_len (d.file f.toNat)
  have hz := h.z f.toNat
  by_cases hmv : mayv d.off f = 0
  · rw [if_neg (show ¬ mayv d.off f ≠ 0 by simp [hmv]), if_neg (show ¬ mayv d.off f ≠ 0 by simp [hmv])]
    have := h.goes (fun d => d.setFile f.toNat ⟨(d.file f.toNat).stands, []⟩) (fun r => r.setFile f.toNat ⟨(d.file f.toNat).stands, []⟩) (Nat.le_refl k) (Nat.le_refl m) (fun h2 => by
      simp only [tick_file]
      exact h2.setFile f.toNat _ (by show (d.file f.toNat).stands.length + sizes [] ≤ m; simp only [sizes]; omega) (by simp))
    cases hb : r.burn.1
    · rw [hb] at this; simpa using this
    · rw [hb] at this; simpa using this
  · rw [if_pos (show mayv d.off f ≠ 0 from hmv), if_pos (show mayv d.off f ≠ 0 from hmv)]; exact ⟨rfl, h⟩
theorem Rel.fuse {d : Dk} {r : Rk} {k m : Nat} (h : Rel d r k m) (n : Int) (hn : n ≤ 9223372036854775807) : (d.fuse n).1 = (r.fuse n).1 ∧ Rel (d.fuse n).2 (r.fuse n).2 k m := by
  unfold Dk.fuse Rk.fuse
  have hp := h.power
  cases ho : d.off
  · rw [ho] at hp
    rw [hp, if_neg (by simp), if_neg (by simp)]
    refine ⟨rfl, ⟨fun f => ?_, h.most, rfl, fun e => ?_, fun e => ?_, fun f => ?_, fun f => ?_, h.m0, h.m1⟩⟩
    · rcases f with _ | f; exact h.file 0; exact h.file 1
    · have : 0 ≤ n := of_decide_eq_true e
      exact ⟨show max n (-1) = n by omega, this, hn⟩
    · have : ¬ 0 ≤ n := of_decide_eq_false e
      show max n (-1) < 0
      omega
    · rcases f with _ | f; exact h.z 0; exact h.z 1
    · rcases f with _ | f; exact h.l 0; exact h.l 1
  · rw [ho] at hp
    rw [hp]
    exact ⟨rfl, h⟩
theorem Rel.offc {d : Dk} {r : Rk} {k m : Nat} (h : Rel d r k m) : d.offc.1 = r.offc.1 ∧ Rel d.offc.2 r.offc.2 k m := by
  unfold Dk.offc Rk.offc
  have hp := h.power
  cases ho : d.off
  · rw [ho] at hp
    rw [hp, if_neg (by simp), if_neg (by simp)]
    refine ⟨rfl, ⟨fun f => ?_, h.most, rfl, h.fz, h.nf, fun f => ?_, fun f => ?_, h.m0, h.m1⟩⟩
    · rcases f with _ | f; exact h.file 0; exact h.file 1
    · rcases f with _ | f; exact h.z 0; exact h.z 1
    · rcases f with _ | f; exact h.l 0; exact h.l 1
  · rw [ho] at hp
    rw [hp]
    exact ⟨rfl, h⟩
theorem Rel.onc {d : Dk} {r : Rk} {k m : Nat} (h : Rel d r k m) (pk : Nat → Int) : (d.onc pk).1 = (r.onc pk).1 ∧ Rel (d.onc pk).2 (r.onc pk).2 k m := by
  unfold Dk.onc Rk.onc
  have hp := h.power
  have f0 : r.f0 = d.f0 := h.file 0
  have f1 : r.f1 = d.f1 := h.file 1
  cases ho : d.off
  · rw [ho] at hp
    rw [hp, if_neg (show ¬ false = true by simp), if_pos (show (!false) = true from rfl)]
    exact ⟨rfl, h⟩
  · rw [ho] at hp
    rw [hp, if_pos (show true = true from rfl), if_neg (show ¬ (!true) = true by simp)]
    have e0 := kept_len d.f0.l d.f0.s (pk 0)
    have e1 := kept_len d.f1.l d.f1.s (pk 1)
    have z0 : d.f0.s.length + sizes d.f0.l ≤ m := h.z 0
    have z1 : d.f1.s.length + sizes d.f1.l ≤ m := h.z 1
    refine ⟨rfl, ⟨fun f => ?_, h.most, rfl, fun e => (by cases e), fun _ => (by show (-1 : Int) < 0; omega), fun f => ?_, fun f => ?_, h.m0, h.m1⟩⟩
    · rcases f with _ | f
      · show (⟨refF r.f0.s (pk 0) r.f0.l, []⟩ : Fil) = ⟨keptF d.f0.s (pk 0) d.f0.l, []⟩
        rw [refF_kept, f0]
      · show (⟨refF r.f1.s (pk 1) r.f1.l, []⟩ : Fil) = ⟨keptF d.f1.s (pk 1) d.f1.l, []⟩
        rw [refF_kept, f1]
    · rcases f with _ | f
      · show (keptF d.f0.s (pk 0) d.f0.l).length + sizes [] ≤ m
        simp only [sizes]; omega
      · show (keptF d.f1.s (pk 1) d.f1.l).length + sizes [] ≤ m
        simp only [sizes]; omega
    · rcases f with _ | f
      · show ([] : List Chg).length ≤ k; simp
      · show ([] : List Chg).length ≤ k; simp
end Go.Proofs.YtfohemgfiidokaaGreatDoor
