/- The document's vault: told, Add, alike with the program's. -/
import Derived.Test.YtfohemgfiidokaaGreatDoorHd
import Derived.Deep.MidRow
namespace Go.Proofs.YtfohemgfiidokaaGreatDoor
open Go.RowKit Go.Sort

/-- the document's disk's own blocks, and its vault's, alone are turned -/
structure MrX (ρ ρ' : Nat → Nat) (X : Nat) (w w' : World) : Prop where
  os : w'.os = w.os
  tape : w'.tape = w.tape
  output : w'.output = w.output
  size : w.heap.size ≤ w'.heap.size
  role : ∀ g, g < w.heap.size → ρ' g = ρ g
  block : ∀ g, g < w.heap.size → ρ g < 5 ∨ 7 < ρ g → g ≠ X → w'.heap[g]? = w.heap[g]?
theorem Mr.x {ρ ρ' : Nat → Nat} {w w' : World} (h : Mr ρ ρ' w w') (X : Nat) : MrX ρ ρ' X w w' := ⟨h.os, h.tape, h.output, h.size, h.role, fun g hg hr _ => h.block g hg hr⟩
theorem MrX.trans {ρ ρ' ρ'' : Nat → Nat} {X : Nat} {w w' w'' : World} (h : MrX ρ ρ' X w w') (k : MrX ρ' ρ'' X w' w'') : MrX ρ ρ'' X w w'' :=
  ⟨k.os.trans h.os, k.tape.trans h.tape, k.output.trans h.output, Nat.le_trans h.size k.size, fun g hg => (k.role g (Nat.lt_of_lt_of_le hg h.size)).trans (h.role g hg),
    fun g hg hr hx => (k.block g (Nat.lt_of_lt_of_le hg h.size) (by rw [h.role g hg]; exact hr) hx).trans (h.block g hg hr hx)⟩
theorem MrX.refl (ρ : Nat → Nat) (X : Nat) (w : World) : MrX ρ ρ X w w := (Mr.refl ρ w).x X
theorem MrX.ofBelow (ρ : Nat → Nat) (X : Nat) {w w' : World} (h : Below w.heap.size w w') : MrX ρ ρ X w w' := (Mr.ofBelow ρ h).x X
theorem MrX.set {ρ ρ' : Nat → Nat} {X : Nat} {w w' : World} (h : MrX ρ ρ' X w w') (o : Nat) (v : Value) : MrX ρ ρ' X w (w'.setCell ⟨X, o, none⟩ v) := by
  have b : RowKit.Below 0 w' (w'.setCell ⟨X, o, none⟩ v) := (RowKit.Below.refl 0 w').setCell (Nat.zero_le _) v
  refine ⟨b.os.trans h.os, b.tape.trans h.tape, b.output.trans h.output, Nat.le_trans h.size b.size, h.role, fun g hg hr hx => ?_⟩
  rw [set_heap fun e => hx e]
  exact h.block g hg hr hx
theorem RefAt.setX {w : World} {ρ : Nat → Nat} {R X : Nat} {r : Rk} (h : RefAt w ρ R r) (hX : ρ X = 4) (o : Nat) (v : Value) : RefAt (w.setCell ⟨X, o, none⟩ v) ρ R r :=
  h.other (fun g _ h5 _ => ⟨rfl, set_heap fun e => by subst e; omega⟩) (fun k hk => h.fresh k (by rwa [set_size] at hk))
theorem VaAt.mr {w w' : World} {ρ ρ' : Nat → Nat} {X R : Nat} {x : Va} (h : VaAt w X R x) (m : Mr ρ ρ' w w') (hX : ρ X = 4) : VaAt w' X R x := h.same (m.block X h.lt (.inl (by omega)))
/-- what a call upon the document's vault leaves -/
def RXL (ρ : Nat → Nat) (R X : Nat) (w : World) (d : Dk) (x : Va) (k m : Nat) (w' : World) : Prop := ∃ r ρ', Rel d r k m ∧ RefAt w' ρ' R r ∧ VaAt w' X R x ∧ ρ' X = 4 ∧ MrX ρ ρ' X w w'
theorem rtold_c {w : World} {X R : Nat} {x : Va} (h : VaAt w X R x) (e0 : Int) : Calls Tryz.prog 65 #[.pointer (some ⟨X, 0, none⟩), .int .i64 e0] w fun e w' => e = .returned (.int .i64 e0) ∧ w' = w.setCell ⟨X, 4, none⟩ (.bool (decide (e0 ≠ 0))) := by
  have c := h.broken
  have z := h.fz 4
  by_cases he : e0 = 0
  · subst he
    go_enter Tryz.func65, Tryz.ntmps65
    go_wp2
    go_ret
    exact ⟨rfl, by simp⟩
  · have e1 : (e0 == 0) = false := beq_false_of_ne he
    have e2 : (e0 != 0) = true := by rw [bne, e1]; rfl
    have hd : decide (e0 ≠ 0) = true := decide_eq_true he
    rw [hd]
    clear he hd
    go_enter Tryz.func65, Tryz.ntmps65
    go_wp2
    go_ret
    exact ⟨rfl, rfl⟩
section
variable {w : World} {ρ : Nat → Nat} {R X : Nat} {d : Dk} {r : Rk} {x : Va} {k m : Nat}
/-- as a call without effect leaves it -/
theorem rxl_below {w' : World} (h : RefAt w ρ R r) (hx : VaAt w X R x) (hX : ρ X = 4) (hr : Rel d r k m) (hb : Below w.heap.size w w') {k' m' : Nat} (hk : k ≤ k') (hm : m ≤ m') : RXL ρ R X w d x k' m' w' := ⟨r, ρ, hr.up hk hm, h.keep hb, hx.keep hb, hX, MrX.ofBelow ρ X hb⟩
/-- behind told -/
theorem rxl_told {w1 : World} {ρ1 : Nat → Nat} (h : RefAt w1 ρ1 R r) (hx : VaAt w1 X R x) (hX : ρ1 X = 4) (hr : Rel d r k m) (hm : MrX ρ ρ1 X w w1) (b : Bool) {k' m' : Nat} (hk : k ≤ k') (hm2 : m ≤ m') : RXL ρ R X w d { x with broken := b } k' m' (w1.setCell ⟨X, 4, none⟩ (.bool b)) := ⟨r, ρ1, hr.up hk hm2, h.setX hX _ _, hx.setBroken b, hX, hm.set _ _⟩
set_option maxRecDepth 100000 in
set_option maxHeartbeats 4000000 in
theorem radd_no (h : RefAt w ρ R r) (hx : VaAt w X R x) (hX : ρ X = 4) (hr : Rel d r k m) (v : Value) (ls : List (List Int)) (hv : RdL w v ls) (hln : ls.length ≤ 250000) (hm0 : vmayv x.broken ls ≠ 0) (k' m' : Nat) (hk : k ≤ k') (hm : m ≤ m') :
    Calls Tryz.prog 28 #[.pointer (some ⟨X, 0, none⟩), v] w fun e w' => e = .returned (.int .i64 (vmayv x.broken ls)) ∧ RXL ρ R X w d x k' m' w' := by
  have HL := Lib.hid (rlong_c v ls w hv (by omega))
  have HF := Lib.hid (rxl_below h hx hX hr (Below.refl w.heap.size w) hk hm)
  have c4 := hx.broken
  obtain ⟨p, cap, rfl, hcap, hel⟩ := hv.shape
  clear hel hcap hv h hr
  unfold vmayv at hm0 ⊢
  generalize lngI ls = lg at *
  generalize x.broken = bk at *
  cases bk
  · cases lg
    · exact absurd rfl hm0
    · clear hm0
      go_enter Tryz.func28, Tryz.ntmps28
      go_wp2_with (first | (go_at_call 64; (with_reducible refine HL.out.mono ?_); rintro e w1 ⟨rfl, hw1⟩; obtain rfl := hw1.symm; clear hw1) | fail)
      go_ret
      exact ⟨rfl, HF.out⟩
  · clear hm0
    go_enter Tryz.func28, Tryz.ntmps28
    go_wp2_with fail
    go_ret
    exact ⟨rfl, HF.out⟩
set_option maxRecDepth 100000 in
set_option maxHeartbeats 4000000 in
theorem radd_full (h : RefAt w ρ R r) (hx : VaAt w X R x) (hX : ρ X = 4) (hr : Rel d r k m) (hk : k ≤ 90000) (hm : m ≤ 900000) (v : Value) (ls : List (List Int)) (hv : RdL w v ls) (hlb : ∀ r ∈ ls, Bytes r) (hsz : sizeI ls ≤ 90000) (hln : ls.length ≤ 250000) (hn : 0 ≤ x.n ∧ x.n ≤ 1000000) (hm0 : vmayv x.broken ls = 0) (hlt : roomF d < sizeI ls) :
    Calls Tryz.prog 28 #[.pointer (some ⟨X, 0, none⟩), v] w fun e w' => e = .returned (.int .i64 (d.addV x ls).1) ∧ RXL ρ R X w (d.addV x ls).2.1 (d.addV x ls).2.2 (k + 3) (m + (44 + sizeI ls)) w' := by
  have hA : d.addV x ls = (7, d, x) := by unfold Dk.addV; rw [if_neg (by simp [hm0]), if_pos hlt]
  rw [hA]
  obtain ⟨hbk, hlg⟩ := vmayv_zero hm0
  have hl0 := rlong_c v ls w hv (by omega)
  rw [hlg] at hl0
  have HL := Lib.hid hl0
  have HFR := Lib.hid (fun W (hb : Below w.heap.size w W) => rframes_c x.gen x.n v ls W (hv.keep hb) hlb hn (by omega) (by omega))
  have HR := Lib.hid (fun W (hb : Below w.heap.size w W) => rv_room (h.keep hb) hr (by omega) (by omega))
  have HX := Lib.hid hx
  have HH := Lib.hid h
  have HRL := Lib.hid hr
  have c0 := hx.d
  have c1 := hx.file
  have c2 := hx.gen
  have c3 := hx.n
  have c4 := hx.broken
  rw [hbk] at c4
  have c2d : w.drew.cell? ⟨X, 2, none⟩ = some (.int .u64 x.gen) := c2
  have c3d : w.drew.cell? ⟨X, 3, none⟩ = some (.int .i64 x.n) := c3
  have hXl := hx.lt
  have hbd := (Below.refl w.heap.size w).drew
  have HKC := Lib.hid (fun (W : World) (hb : Below w.heap.size w W) (o : Nat) => show W.cell? ⟨X, o, none⟩ = w.cell? ⟨X, o, none⟩ from hb.cell hXl)
  have hfl := framesI_len x.gen ls x.n
  have hss := strOfNums_size (framesI x.gen x.n ls)
  rw [hfl] at hss
  have hfb := frames_bytes x.gen ls x.n hlb
  have hns := nums_str _ hfb
  have HNS := Lib.hid hns
  have HSS := Lib.hid hss
  have hd : decide (roomF d < (sizeI ls : Int)) = true := decide_eq_true hlt
  clear hlt hA
  obtain ⟨p, cap, rfl, hcap, hel⟩ := hv.shape
  clear hel hcap hv h hr hx hm0 hns hfb hbk hlg hl0
  generalize strOfNums (framesI x.gen x.n ls) = s at *
  go_enter Tryz.func28, Tryz.ntmps28
  go_upto_region 5 with (first | (go_at_call 64; (with_reducible refine HL.out.mono ?_); rintro e w1 ⟨rfl, hw1⟩; obtain rfl := hw1.symm; clear hw1) | fail)
  go_region_held3 (fun W => W.cell? ⟨X, 2, none⟩ = some (.int .u64 x.gen) ∧ W.cell? ⟨X, 3, none⟩ = some (.int .i64 x.n)) (first | exact ⟨c2d, c3d⟩ | exact ⟨k2, k3⟩ | fail) (first | (go_at_call 67; (with_reducible refine (HFR.out _ hbd).mono ?_); rintro e w2 ⟨rfl, b2⟩; have k2 := (show w2.cell? ⟨X, 2, none⟩ = w.drew.cell? ⟨X, 2, none⟩ from b2.cell hXl).trans c2d; have k3 := (show w2.cell? ⟨X, 3, none⟩ = w.drew.cell? ⟨X, 3, none⟩ from b2.cell hXl).trans c3d) | fail)
  all_goals have b2 := bel_call hbd b2
  all_goals have k0 := (HKC.out _ b2 0).trans c0
  all_goals go_wp2_with (first | (go_at_call 23; (with_reducible refine (HR.out _ b2).mono ?_); rintro e w3 ⟨rfl, q, rfl⟩) | fail)
  all_goals go_ret
  all_goals exact ⟨rfl, rxl_below HH.out HX.out hX HRL.out (bel_call b2 (below_drewN w2 q)) (by omega) (by omega)⟩
set_option maxRecDepth 100000 in
set_option maxHeartbeats 4000000 in
theorem radd_none (h : RefAt w ρ R r) (hx : VaAt w X R x) (hX : ρ X = 4) (hr : Rel d r k m) (hk : k ≤ 90000) (hm : m ≤ 900000) (v : Value) (ls : List (List Int)) (hv : RdL w v ls) (hlb : ∀ r ∈ ls, Bytes r) (hsz : sizeI ls ≤ 90000) (hln : ls.length ≤ 250000) (hn : 0 ≤ x.n ∧ x.n ≤ 1000000) (hm0 : vmayv x.broken ls = 0) (hlt : ¬ roomF d < sizeI ls) (h0 : ls.length = 0) :
    Calls Tryz.prog 28 #[.pointer (some ⟨X, 0, none⟩), v] w fun e w' => e = .returned (.int .i64 (d.addV x ls).1) ∧ RXL ρ R X w (d.addV x ls).2.1 (d.addV x ls).2.2 (k + 3) (m + (44 + sizeI ls)) w' := by
  have hA : d.addV x ls = (0, d, x) := by unfold Dk.addV; rw [if_neg (by simp [hm0]), if_neg hlt, if_pos h0]
  have _ := hln
  rw [hA]
  obtain ⟨hbk, hlg⟩ := vmayv_zero hm0
  have hl0 := rlong_c v ls w hv (by omega)
  rw [hlg] at hl0
  have HL := Lib.hid hl0
  have HFR := Lib.hid (fun W (hb : Below w.heap.size w W) => rframes_c x.gen x.n v ls W (hv.keep hb) hlb hn (by omega) (by omega))
  have HR := Lib.hid (fun W (hb : Below w.heap.size w W) => rv_room (h.keep hb) hr (by omega) (by omega))
  have HX := Lib.hid hx
  have HH := Lib.hid h
  have HRL := Lib.hid hr
  have c0 := hx.d
  have c1 := hx.file
  have c2 := hx.gen
  have c3 := hx.n
  have c4 := hx.broken
  rw [hbk] at c4
  have c2d : w.drew.cell? ⟨X, 2, none⟩ = some (.int .u64 x.gen) := c2
  have c3d : w.drew.cell? ⟨X, 3, none⟩ = some (.int .i64 x.n) := c3
  have hXl := hx.lt
  have hbd := (Below.refl w.heap.size w).drew
  have HKC := Lib.hid (fun (W : World) (hb : Below w.heap.size w W) (o : Nat) => show W.cell? ⟨X, o, none⟩ = w.cell? ⟨X, o, none⟩ from hb.cell hXl)
  have hfl := framesI_len x.gen ls x.n
  have hss := strOfNums_size (framesI x.gen x.n ls)
  rw [hfl] at hss
  have hfb := frames_bytes x.gen ls x.n hlb
  have hns := nums_str _ hfb
  have HNS := Lib.hid hns
  have HSS := Lib.hid hss
  have hd : decide (roomF d < (sizeI ls : Int)) = false := decide_eq_false hlt
  have hq : ((ls.length : Int) == 0) = true := by rw [beq_iff_eq]; omega
  clear hlt hA h0
  obtain ⟨p, cap, rfl, hcap, hel⟩ := hv.shape
  clear hel hcap hv h hr hx hm0 hns hfb hbk hlg hl0
  generalize strOfNums (framesI x.gen x.n ls) = s at *
  go_enter Tryz.func28, Tryz.ntmps28
  go_upto_region 5 with (first | (go_at_call 64; (with_reducible refine HL.out.mono ?_); rintro e w1 ⟨rfl, hw1⟩; obtain rfl := hw1.symm; clear hw1) | fail)
  go_region_held3 (fun W => W.cell? ⟨X, 2, none⟩ = some (.int .u64 x.gen) ∧ W.cell? ⟨X, 3, none⟩ = some (.int .i64 x.n)) (first | exact ⟨c2d, c3d⟩ | exact ⟨k2, k3⟩ | fail) (first | (go_at_call 67; (with_reducible refine (HFR.out _ hbd).mono ?_); rintro e w2 ⟨rfl, b2⟩; have k2 := (show w2.cell? ⟨X, 2, none⟩ = w.drew.cell? ⟨X, 2, none⟩ from b2.cell hXl).trans c2d; have k3 := (show w2.cell? ⟨X, 3, none⟩ = w.drew.cell? ⟨X, 3, none⟩ from b2.cell hXl).trans c3d) | fail)
  all_goals have b2 := bel_call hbd b2
  all_goals have k0 := (HKC.out _ b2 0).trans c0
  all_goals go_wp2_with (first | (go_at_call 23; (with_reducible refine (HR.out _ b2).mono ?_); rintro e w3 ⟨rfl, q, rfl⟩) | fail)
  all_goals go_ret
  all_goals exact ⟨rfl, rxl_below HH.out HX.out hX HRL.out (bel_call b2 (below_drewN w2 q)) (by omega) (by omega)⟩
set_option maxRecDepth 100000 in
set_option maxHeartbeats 4000000 in
theorem radd_go (h : RefAt w ρ R r) (hx : VaAt w X R x) (hX : ρ X = 4) (hr : Rel d r k m) (hk : k ≤ 90000) (hm : m ≤ 900000) (v : Value) (ls : List (List Int)) (hv : RdL w v ls) (hlb : ∀ r ∈ ls, Bytes r) (hsz : sizeI ls ≤ 90000) (hln : ls.length ≤ 250000) (hn : 0 ≤ x.n ∧ x.n ≤ 1000000) (hm0 : vmayv x.broken ls = 0) (hlt : ¬ roomF d < sizeI ls) (h0 : ls.length ≠ 0) :
    Calls Tryz.prog 28 #[.pointer (some ⟨X, 0, none⟩), v] w fun e w' => e = .returned (.int .i64 (d.addV x ls).1) ∧ RXL ρ R X w (d.addV x ls).2.1 (d.addV x ls).2.2 (k + 3) (m + (44 + sizeI ls)) w' := by
  have hA : d.addV x ls = if (seqD (addL x ls) d).1 = 0 then (0, (seqD (addL x ls) d).2, { x with n := x.n + ls.length, broken := false }) else ((seqD (addL x ls) d).1, (seqD (addL x ls) d).2, { x with broken := true }) := by unfold Dk.addV; rw [if_neg (by simp [hm0]), if_neg hlt, if_neg h0]
  have hS : seqD (addL x ls) d = if (d.write x.file (framesI x.gen x.n ls)).1 = 0 then if ((d.write x.file (framesI x.gen x.n ls)).2.sync x.file).1 = 0 then (0, ((d.write x.file (framesI x.gen x.n ls)).2.sync x.file).2) else (d.write x.file (framesI x.gen x.n ls)).2.sync x.file else d.write x.file (framesI x.gen x.n ls) := by
    unfold addL
    rw [seqD, seqD, seqD]
  rw [hS] at hA
  clear hS
  obtain ⟨hbk, hlg⟩ := vmayv_zero hm0
  have hl0 := rlong_c v ls w hv (by omega)
  rw [hlg] at hl0
  have HL := Lib.hid hl0
  have HFR := Lib.hid (fun W (hb : Below w.heap.size w W) => rframes_c x.gen x.n v ls W (hv.keep hb) hlb hn (by omega) (by omega))
  have HR := Lib.hid (fun W (hb : Below w.heap.size w W) => rv_room (h.keep hb) hr (by omega) (by omega))
  have HX := Lib.hid hx
  have HH := Lib.hid h
  have HRL := Lib.hid hr
  have c0 := hx.d
  have c1 := hx.file
  have c2 := hx.gen
  have c3 := hx.n
  have c4 := hx.broken
  rw [hbk] at c4
  have c2d : w.drew.cell? ⟨X, 2, none⟩ = some (.int .u64 x.gen) := c2
  have c3d : w.drew.cell? ⟨X, 3, none⟩ = some (.int .i64 x.n) := c3
  have hXl := hx.lt
  have hbd := (Below.refl w.heap.size w).drew
  have HKC := Lib.hid (fun (W : World) (hb : Below w.heap.size w W) (o : Nat) => show W.cell? ⟨X, o, none⟩ = w.cell? ⟨X, o, none⟩ from hb.cell hXl)
  have hfl := framesI_len x.gen ls x.n
  have hss := strOfNums_size (framesI x.gen x.n ls)
  rw [hfl] at hss
  have hfb := frames_bytes x.gen ls x.n hlb
  have hns := nums_str _ hfb
  have HNS := Lib.hid hns
  have HSS := Lib.hid hss
  have hd : decide (roomF d < (sizeI ls : Int)) = false := decide_eq_false hlt
  have hq : ((ls.length : Int) == 0) = false := by rw [beq_eq_false_iff_ne]; omega
  have hww : IntKind.i64.wrap (x.n + ls.length) = x.n + ls.length := by rw [IntKind.wrap_i64]; omega
  have K1 := fun W ρ1 (a : RefAt W ρ1 R r) v (hv : RdS W ρ1 v (framesI x.gen x.n ls)) => rv_write a hr (by omega) (by omega) x.file v (framesI x.gen x.n ls) hv (by omega)
  rw [hfl] at K1
  generalize d.write x.file (framesI x.gen x.n ls) = q1 at *
  have K2 := fun w1 ρ1 r1 (a1 : RefAt w1 ρ1 R r1) (l1 : Rel q1.2 r1 (k + 1) (m + sizeI ls)) => rv_sync a1 l1 (by omega) (by omega) x.file
  generalize q1.2.sync x.file = q2 at *
  obtain ⟨y1, d1⟩ := q1
  obtain ⟨y2, d2⟩ := q2
  simp only at *
  have H1 := Lib.hid K1; have H2 := Lib.hid K2
  clear K1 K2 hlt h0 hfl
  by_cases z1 : y1 = 0
  · by_cases z2 : y2 = 0
    · have HV : d.addV x ls = (0, d2, { x with n := x.n + ls.length, broken := false }) := by
        rw [hA, if_pos z1, if_pos z2]; rfl
      rw [HV]
      subst z1 z2
      clear hA HV
      obtain ⟨p, cap, rfl, hcap, hel⟩ := hv.shape
      clear hel hcap hv h hr hx hm0 hns hfb hbk hlg hl0
      generalize strOfNums (framesI x.gen x.n ls) = s at *
      go_enter Tryz.func28, Tryz.ntmps28
      go_upto_region 5 with (first | (go_at_call 64; (with_reducible refine HL.out.mono ?_); rintro e w1 ⟨rfl, hw1⟩; obtain rfl := hw1.symm; clear hw1) | fail)
      go_region_held3 (fun W => W.cell? ⟨X, 2, none⟩ = some (.int .u64 x.gen) ∧ W.cell? ⟨X, 3, none⟩ = some (.int .i64 x.n)) (first | exact ⟨c2d, c3d⟩ | exact ⟨k2, k3⟩ | fail) (first | (go_at_call 67; (with_reducible refine (HFR.out _ hbd).mono ?_); rintro e w2 ⟨rfl, b2⟩; have k2 := (show w2.cell? ⟨X, 2, none⟩ = w.drew.cell? ⟨X, 2, none⟩ from b2.cell hXl).trans c2d; have k3 := (show w2.cell? ⟨X, 3, none⟩ = w.drew.cell? ⟨X, 3, none⟩ from b2.cell hXl).trans c3d) | fail)
      all_goals have b2 := bel_call hbd b2
      all_goals have k0 := (HKC.out _ b2 0).trans c0
      all_goals go_wp2_with (first | (go_at_call 23; (with_reducible refine (HR.out _ b2).mono ?_); rintro e w3 ⟨rfl, q, rfl⟩) | fail)
      all_goals (refine wp_gen (fun W => Below w.heap.size w W) (bel_call b2 (below_drewN w2 q)) ?_; rintro W hbW)
      all_goals have hbWd := bel_call hbW (Below.refl W.heap.size W).drew
      all_goals have m0 : W.drew.cell? ⟨X, 0, none⟩ = some (.pointer (some ⟨R, 0, none⟩)) := (HKC.out W hbW 0).trans c0
      all_goals have m1 : W.drew.cell? ⟨X, 1, none⟩ = some (.int .i64 x.file) := (HKC.out W hbW 1).trans c1
      all_goals obtain ⟨cp, w4, hcv, hta, b4⟩ := text_conv s W.drew
      all_goals rw [HNS.out] at hta
      all_goals have t4 : RdS w4 ρ (.slice (some ⟨W.heap.size, 0, none⟩) (sizeI ls) cp) (framesI x.gen x.n ls) := by (have t4 := hta.rds (ρ := ρ) (HH.out.fresh _ hbWd.size); rw [HSS.out] at t4; exact t4)
      all_goals have bw4 := bel_call hbWd b4
      all_goals have a4 := HH.out.keep bw4
      all_goals have n0 := (HKC.out w4 bw4 0).trans c0
      all_goals have n1 := (HKC.out w4 bw4 1).trans c1
      all_goals have hX4 : X < w4.heap.size := Nat.lt_of_lt_of_le hXl bw4.size
      all_goals have hX5 : ρ X < 5 := by omega
      all_goals have B4 := Lib.hid b4
      all_goals clear b4 hta
      refine wp_region_noPanic ?_
      refine wp_region_held_drew (S := (fun V => V.cell? ⟨X, 0, none⟩ = some (.pointer (some ⟨R, 0, none⟩)) ∧ V.cell? ⟨X, 1, none⟩ = some (.int .i64 x.file))) (by kernel_rfl) (⟨m0, m1⟩) (fun hHeld => ?_)
      refine wpAnyH_take (i := 0) (oi := ?_) (v := ?_) ?_ (by kernel_rfl) (by kernel_rfl) (by kernel_rfl) ?_ (Or.inl ⟨?_, ?_⟩) (by assumption) ?_
      rotate_left 2
      · simp only [List.getElem?_toArray, List.getElem?_cons_zero]; rfl
      · exact fun _ _ _ h => h
      · rfl
      · (intro w hSw; (try dsimp only at hSw); go_simp) <;> with_reducible rfl
      try simp only [Act.put, List.setIfInBounds_toArray, List.set_cons_zero, List.set_cons_succ]
      refine wpAnyH_take (i := 1) (oi := ?_) (v := ?_) ?_ (by kernel_rfl) (by kernel_rfl) (by kernel_rfl) ?_ (Or.inl ⟨?_, ?_⟩) (by assumption) ?_
      rotate_left 2
      · simp only [List.getElem?_toArray, List.getElem?_cons_succ, List.getElem?_cons_zero]; rfl
      · exact fun _ _ _ h => h
      · rfl
      · (intro w hSw; (try dsimp only at hSw); go_simp) <;> with_reducible rfl
      try simp only [Act.put, List.setIfInBounds_toArray, List.set_cons_zero, List.set_cons_succ]
      refine wpAnyH_take (i := 2) (oi := ?_) (v := ?_) ?_ (by kernel_rfl) (by kernel_rfl) (by kernel_rfl) ?_ (Or.inl ⟨?_, ?_⟩) (by assumption) ?_
      rotate_left 2
      · simp only [List.getElem?_toArray, List.getElem?_cons_succ, List.getElem?_cons_zero]; rfl
      · exact fun _ _ _ h => h
      · rfl
      · (intro w hSw; (try dsimp only at hSw); go_simp) <;> with_reducible rfl
      try simp only [Act.put, List.setIfInBounds_toArray, List.set_cons_zero, List.set_cons_succ]
      refine wpAnyH_take (i := 3) (oi := ?_) (v := ?_) ?_ (by kernel_rfl) (by kernel_rfl) (by kernel_rfl) ?_ (Or.inl ⟨?_, ?_⟩) (by assumption) ?_
      rotate_left 2
      · simp only [List.getElem?_toArray, List.getElem?_cons_succ, List.getElem?_cons_zero]; rfl
      · exact fun _ _ _ h => h
      · rfl
      · (intro w hSw; (try dsimp only at hSw); go_simp) <;> with_reducible rfl
      try simp only [Act.put, List.setIfInBounds_toArray, List.set_cons_zero, List.set_cons_succ]
      refine wpAnyH_take (i := 4) (oi := ?_) (v := ?_) ?_ (by kernel_rfl) (by kernel_rfl) (by kernel_rfl) ?_ (Or.inl ⟨?_, ?_⟩) (by assumption) ?_
      rotate_left 2
      · simp only [List.getElem?_toArray, List.getElem?_cons_succ, List.getElem?_cons_zero]; rfl
      · exact fun _ _ _ h => h
      · rfl
      · (intro w hSw; (try dsimp only at hSw); go_simp) <;> with_reducible rfl
      try simp only [Act.put, List.setIfInBounds_toArray, List.set_cons_zero, List.set_cons_succ]
      refine wpAnyH_take (i := 5) (oi := ?_) (v := ?_) ?_ (by kernel_rfl) (by kernel_rfl) (by kernel_rfl) ?_ (Or.inl ⟨?_, ?_⟩) (by assumption) ?_
      rotate_left 2
      · simp only [List.getElem?_toArray, List.getElem?_cons_succ, List.getElem?_cons_zero]; rfl
      · exact fun _ _ _ h => h
      · rfl
      · (intro w hSw; (try dsimp only at hSw); go_simp) <;> with_reducible rfl
      try simp only [Act.put, List.setIfInBounds_toArray, List.set_cons_zero, List.set_cons_succ]
      refine wpAnyH_take (i := 6) (oi := ?_) (v := ?_) ?_ (by kernel_rfl) (by kernel_rfl) (by kernel_rfl) ?_ (Or.inl ⟨?_, ?_⟩) (by assumption) ?_
      rotate_left 2
      · simp only [List.getElem?_toArray, List.getElem?_cons_succ, List.getElem?_cons_zero]; rfl
      · exact fun _ _ _ h => h
      · rfl
      · (intro w hSw; (try dsimp only at hSw); go_simp) <;> with_reducible rfl
      try simp only [Act.put, List.setIfInBounds_toArray, List.set_cons_zero, List.set_cons_succ]
      refine wpAnyH_take (i := 7) (oi := ?_) (v := ?_) ?_ (by kernel_rfl) (by kernel_rfl) (by kernel_rfl) ?_ (Or.inl ⟨?_, ?_⟩) (by assumption) ?_
      rotate_left 2
      · simp only [List.getElem?_toArray, List.getElem?_cons_succ, List.getElem?_cons_zero]; rfl
      · exact fun _ _ _ h => h
      · rfl
      · (intro w hSw; (try dsimp only at hSw); go_simp) <;> with_reducible rfl
      try simp only [Act.put, List.setIfInBounds_toArray, List.set_cons_zero, List.set_cons_succ]
      refine wpAnyH_take (i := 8) (oi := ?_) (v := ?_) ?_ (by kernel_rfl) (by kernel_rfl) (by kernel_rfl) ?_ (Or.inl ⟨?_, ?_⟩) (by assumption) ?_
      rotate_left 2
      · simp only [List.getElem?_toArray, List.getElem?_cons_succ, List.getElem?_cons_zero]; rfl
      · exact fun _ _ _ h => h
      · rfl
      · (intro w hSw; (try dsimp only at hSw); go_simp) <;> with_reducible rfl
      try simp only [Act.put, List.setIfInBounds_toArray, List.set_cons_zero, List.set_cons_succ]
      refine wpAnyH_one 9 (o := ?_) (by kernel_rfl) ?_ (fun K hK => ?_)
      rotate_left 1
      · simp only [List.getElem?_toArray, List.getElem?_cons_succ, List.getElem?_cons_zero]; rfl
      go_simp

      refine hK.out _ _ (⟨n0, n1⟩) (fun hH => ?_)
      clear hHeld; have hHeld := hH; clear hH hK K
      try simp only [Act.put, List.setIfInBounds_toArray, List.set_cons_zero, List.set_cons_succ]
      refine wpAnyH_one 10 (o := ?_) (by kernel_rfl) ?_ (fun K hK => ?_)
      rotate_left 1
      · simp only [List.getElem?_toArray, List.getElem?_cons_succ, List.getElem?_cons_zero]; rfl
      go_simp
      (with_reducible refine (H1.out _ _ a4 _ t4).mono ?_); rintro e w6 ⟨rfl, r6, ρ6, l6, a6, m6⟩; have g0 := (World.cell?_of_block (a := ⟨X, 0, none⟩) (m6.block X hX4 (.inl hX5))).trans n0; have g1 := (World.cell?_of_block (a := ⟨X, 1, none⟩) (m6.block X hX4 (.inl hX5))).trans n1
      refine hK.out _ _ (⟨g0, g1⟩) (fun hH => ?_)
      clear hHeld; have hHeld := hH; clear hH hK K
      try simp only [Act.put, List.setIfInBounds_toArray, List.set_cons_zero, List.set_cons_succ]
      refine wpAnyH_take (i := 11) (oi := ?_) (v := ?_) ?_ (by kernel_rfl) (by kernel_rfl) (by kernel_rfl) ?_ (Or.inl ⟨?_, ?_⟩) (by assumption) ?_
      rotate_left 2
      · simp only [List.getElem?_toArray, List.getElem?_cons_succ, List.getElem?_cons_zero]; rfl
      · exact fun _ _ _ h => h
      · rfl
      · (intro w hSw; (try dsimp only at hSw); go_simp) <;> with_reducible rfl
      try simp only [Act.put, List.setIfInBounds_toArray, List.set_cons_zero, List.set_cons_succ]
      refine wpAnyH_done (by kernel_rfl) ?_ _
      refine NoPanic.normal ?_
      try simp only [Act.put, List.setIfInBounds_toArray, List.set_cons_zero, List.set_cons_succ]
      all_goals have va6 := (HX.out.keep bw4).mr m6 hX
      all_goals have x6 : ρ6 X = 4 := (m6.role X hX4).trans hX
      all_goals have mm6 := (MrX.ofBelow ρ X bw4).trans (m6.x X)
      all_goals go_upto_region 12 with fail
      all_goals have hb6 := (Below.refl w6.heap.size w6).drew
      all_goals have g0 : w6.drew.cell? ⟨X, 0, none⟩ = some (.pointer (some ⟨R, 0, none⟩)) := g0
      all_goals have g1 : w6.drew.cell? ⟨X, 1, none⟩ = some (.int .i64 x.file) := g1
      all_goals have hX6 : X < w6.drew.heap.size := Nat.lt_of_lt_of_le hX4 m6.size
      all_goals have hX6r : ρ6 X < 5 := by omega
      all_goals go_region_held3 (fun V => V.cell? ⟨X, 0, none⟩ = some (.pointer (some ⟨R, 0, none⟩)) ∧ V.cell? ⟨X, 1, none⟩ = some (.int .i64 x.file)) (first | exact ⟨g0, g1⟩ | exact ⟨o0, o1⟩ | fail) (first | (go_at_call 58; (with_reducible refine (H2.out _ _ _ (a6.keep hb6) l6).mono ?_); rintro e w7 ⟨rfl, r7, ρ7, l7, a7, m7⟩; have o0 := (World.cell?_of_block (a := ⟨X, 0, none⟩) (m7.block X hX6 (.inl hX6r))).trans g0; have o1 := (World.cell?_of_block (a := ⟨X, 1, none⟩) (m7.block X hX6 (.inl hX6r))).trans g1) | fail)
      all_goals have va7 := (va6.keep hb6).mr m7 x6
      all_goals have x7 : ρ7 X = 4 := (m7.role X hX6).trans x6
      all_goals have mm7 := mm6.trans ((MrX.ofBelow ρ6 X hb6).trans (m7.x X))
      all_goals have p3 := va7.n
      all_goals have pz := va7.fz 3
      all_goals have va8 := va7.setN (x.n + ls.length)
      all_goals have a8 := a7.setX x7 3 (.int .i64 (x.n + ls.length))
      all_goals have mm8 := mm7.set 3 (.int .i64 (x.n + ls.length))
      all_goals go_wp2_with (first | (go_at_call 65; (with_reducible refine (rtold_c va8 0).mono ?_); rintro e w9 ⟨rfl, rfl⟩) | fail)
      all_goals go_ret
      all_goals exact ⟨rfl, rxl_told a8 va8 x7 l7 mm8 false (by omega) (by omega)⟩
    · have HV : d.addV x ls = (y2, d2, { x with broken := true }) := by
        rw [hA, if_pos z1, if_neg z2, if_neg z2]
      rw [HV]
      subst z1
      have e3 : (y2 == 0) = false := beq_false_of_ne z2
      have hdt : (!decide (y2 = 0)) = true := by simp [z2]
      have HDT := Lib.hid hdt
      clear hA HV z2 hdt
      obtain ⟨p, cap, rfl, hcap, hel⟩ := hv.shape
      clear hel hcap hv h hr hx hm0 hns hfb hbk hlg hl0
      generalize strOfNums (framesI x.gen x.n ls) = s at *
      go_enter Tryz.func28, Tryz.ntmps28
      go_upto_region 5 with (first | (go_at_call 64; (with_reducible refine HL.out.mono ?_); rintro e w1 ⟨rfl, hw1⟩; obtain rfl := hw1.symm; clear hw1) | fail)
      go_region_held3 (fun W => W.cell? ⟨X, 2, none⟩ = some (.int .u64 x.gen) ∧ W.cell? ⟨X, 3, none⟩ = some (.int .i64 x.n)) (first | exact ⟨c2d, c3d⟩ | exact ⟨k2, k3⟩ | fail) (first | (go_at_call 67; (with_reducible refine (HFR.out _ hbd).mono ?_); rintro e w2 ⟨rfl, b2⟩; have k2 := (show w2.cell? ⟨X, 2, none⟩ = w.drew.cell? ⟨X, 2, none⟩ from b2.cell hXl).trans c2d; have k3 := (show w2.cell? ⟨X, 3, none⟩ = w.drew.cell? ⟨X, 3, none⟩ from b2.cell hXl).trans c3d) | fail)
      all_goals have b2 := bel_call hbd b2
      all_goals have k0 := (HKC.out _ b2 0).trans c0
      all_goals go_wp2_with (first | (go_at_call 23; (with_reducible refine (HR.out _ b2).mono ?_); rintro e w3 ⟨rfl, q, rfl⟩) | fail)
      all_goals (refine wp_gen (fun W => Below w.heap.size w W) (bel_call b2 (below_drewN w2 q)) ?_; rintro W hbW)
      all_goals have hbWd := bel_call hbW (Below.refl W.heap.size W).drew
      all_goals have m0 : W.drew.cell? ⟨X, 0, none⟩ = some (.pointer (some ⟨R, 0, none⟩)) := (HKC.out W hbW 0).trans c0
      all_goals have m1 : W.drew.cell? ⟨X, 1, none⟩ = some (.int .i64 x.file) := (HKC.out W hbW 1).trans c1
      all_goals obtain ⟨cp, w4, hcv, hta, b4⟩ := text_conv s W.drew
      all_goals rw [HNS.out] at hta
      all_goals have t4 : RdS w4 ρ (.slice (some ⟨W.heap.size, 0, none⟩) (sizeI ls) cp) (framesI x.gen x.n ls) := by (have t4 := hta.rds (ρ := ρ) (HH.out.fresh _ hbWd.size); rw [HSS.out] at t4; exact t4)
      all_goals have bw4 := bel_call hbWd b4
      all_goals have a4 := HH.out.keep bw4
      all_goals have n0 := (HKC.out w4 bw4 0).trans c0
      all_goals have n1 := (HKC.out w4 bw4 1).trans c1
      all_goals have hX4 : X < w4.heap.size := Nat.lt_of_lt_of_le hXl bw4.size
      all_goals have hX5 : ρ X < 5 := by omega
      all_goals have B4 := Lib.hid b4
      all_goals clear b4 hta
      refine wp_region_noPanic ?_
      refine wp_region_held_drew (S := (fun V => V.cell? ⟨X, 0, none⟩ = some (.pointer (some ⟨R, 0, none⟩)) ∧ V.cell? ⟨X, 1, none⟩ = some (.int .i64 x.file))) (by kernel_rfl) (⟨m0, m1⟩) (fun hHeld => ?_)
      refine wpAnyH_take (i := 0) (oi := ?_) (v := ?_) ?_ (by kernel_rfl) (by kernel_rfl) (by kernel_rfl) ?_ (Or.inl ⟨?_, ?_⟩) (by assumption) ?_
      rotate_left 2
      · simp only [List.getElem?_toArray, List.getElem?_cons_zero]; rfl
      · exact fun _ _ _ h => h
      · rfl
      · (intro w hSw; (try dsimp only at hSw); go_simp) <;> with_reducible rfl
      try simp only [Act.put, List.setIfInBounds_toArray, List.set_cons_zero, List.set_cons_succ]
      refine wpAnyH_take (i := 1) (oi := ?_) (v := ?_) ?_ (by kernel_rfl) (by kernel_rfl) (by kernel_rfl) ?_ (Or.inl ⟨?_, ?_⟩) (by assumption) ?_
      rotate_left 2
      · simp only [List.getElem?_toArray, List.getElem?_cons_succ, List.getElem?_cons_zero]; rfl
      · exact fun _ _ _ h => h
      · rfl
      · (intro w hSw; (try dsimp only at hSw); go_simp) <;> with_reducible rfl
      try simp only [Act.put, List.setIfInBounds_toArray, List.set_cons_zero, List.set_cons_succ]
      refine wpAnyH_take (i := 2) (oi := ?_) (v := ?_) ?_ (by kernel_rfl) (by kernel_rfl) (by kernel_rfl) ?_ (Or.inl ⟨?_, ?_⟩) (by assumption) ?_
      rotate_left 2
      · simp only [List.getElem?_toArray, List.getElem?_cons_succ, List.getElem?_cons_zero]; rfl
      · exact fun _ _ _ h => h
      · rfl
      · (intro w hSw; (try dsimp only at hSw); go_simp) <;> with_reducible rfl
      try simp only [Act.put, List.setIfInBounds_toArray, List.set_cons_zero, List.set_cons_succ]
      refine wpAnyH_take (i := 3) (oi := ?_) (v := ?_) ?_ (by kernel_rfl) (by kernel_rfl) (by kernel_rfl) ?_ (Or.inl ⟨?_, ?_⟩) (by assumption) ?_
      rotate_left 2
      · simp only [List.getElem?_toArray, List.getElem?_cons_succ, List.getElem?_cons_zero]; rfl
      · exact fun _ _ _ h => h
      · rfl
      · (intro w hSw; (try dsimp only at hSw); go_simp) <;> with_reducible rfl
      try simp only [Act.put, List.setIfInBounds_toArray, List.set_cons_zero, List.set_cons_succ]
      refine wpAnyH_take (i := 4) (oi := ?_) (v := ?_) ?_ (by kernel_rfl) (by kernel_rfl) (by kernel_rfl) ?_ (Or.inl ⟨?_, ?_⟩) (by assumption) ?_
      rotate_left 2
      · simp only [List.getElem?_toArray, List.getElem?_cons_succ, List.getElem?_cons_zero]; rfl
      · exact fun _ _ _ h => h
      · rfl
      · (intro w hSw; (try dsimp only at hSw); go_simp) <;> with_reducible rfl
      try simp only [Act.put, List.setIfInBounds_toArray, List.set_cons_zero, List.set_cons_succ]
      refine wpAnyH_take (i := 5) (oi := ?_) (v := ?_) ?_ (by kernel_rfl) (by kernel_rfl) (by kernel_rfl) ?_ (Or.inl ⟨?_, ?_⟩) (by assumption) ?_
      rotate_left 2
      · simp only [List.getElem?_toArray, List.getElem?_cons_succ, List.getElem?_cons_zero]; rfl
      · exact fun _ _ _ h => h
      · rfl
      · (intro w hSw; (try dsimp only at hSw); go_simp) <;> with_reducible rfl
      try simp only [Act.put, List.setIfInBounds_toArray, List.set_cons_zero, List.set_cons_succ]
      refine wpAnyH_take (i := 6) (oi := ?_) (v := ?_) ?_ (by kernel_rfl) (by kernel_rfl) (by kernel_rfl) ?_ (Or.inl ⟨?_, ?_⟩) (by assumption) ?_
      rotate_left 2
      · simp only [List.getElem?_toArray, List.getElem?_cons_succ, List.getElem?_cons_zero]; rfl
      · exact fun _ _ _ h => h
      · rfl
      · (intro w hSw; (try dsimp only at hSw); go_simp) <;> with_reducible rfl
      try simp only [Act.put, List.setIfInBounds_toArray, List.set_cons_zero, List.set_cons_succ]
      refine wpAnyH_take (i := 7) (oi := ?_) (v := ?_) ?_ (by kernel_rfl) (by kernel_rfl) (by kernel_rfl) ?_ (Or.inl ⟨?_, ?_⟩) (by assumption) ?_
      rotate_left 2
      · simp only [List.getElem?_toArray, List.getElem?_cons_succ, List.getElem?_cons_zero]; rfl
      · exact fun _ _ _ h => h
      · rfl
      · (intro w hSw; (try dsimp only at hSw); go_simp) <;> with_reducible rfl
      try simp only [Act.put, List.setIfInBounds_toArray, List.set_cons_zero, List.set_cons_succ]
      refine wpAnyH_take (i := 8) (oi := ?_) (v := ?_) ?_ (by kernel_rfl) (by kernel_rfl) (by kernel_rfl) ?_ (Or.inl ⟨?_, ?_⟩) (by assumption) ?_
      rotate_left 2
      · simp only [List.getElem?_toArray, List.getElem?_cons_succ, List.getElem?_cons_zero]; rfl
      · exact fun _ _ _ h => h
      · rfl
      · (intro w hSw; (try dsimp only at hSw); go_simp) <;> with_reducible rfl
      try simp only [Act.put, List.setIfInBounds_toArray, List.set_cons_zero, List.set_cons_succ]
      refine wpAnyH_one 9 (o := ?_) (by kernel_rfl) ?_ (fun K hK => ?_)
      rotate_left 1
      · simp only [List.getElem?_toArray, List.getElem?_cons_succ, List.getElem?_cons_zero]; rfl
      go_simp

      refine hK.out _ _ (⟨n0, n1⟩) (fun hH => ?_)
      clear hHeld; have hHeld := hH; clear hH hK K
      try simp only [Act.put, List.setIfInBounds_toArray, List.set_cons_zero, List.set_cons_succ]
      refine wpAnyH_one 10 (o := ?_) (by kernel_rfl) ?_ (fun K hK => ?_)
      rotate_left 1
      · simp only [List.getElem?_toArray, List.getElem?_cons_succ, List.getElem?_cons_zero]; rfl
      go_simp
      (with_reducible refine (H1.out _ _ a4 _ t4).mono ?_); rintro e w6 ⟨rfl, r6, ρ6, l6, a6, m6⟩; have g0 := (World.cell?_of_block (a := ⟨X, 0, none⟩) (m6.block X hX4 (.inl hX5))).trans n0; have g1 := (World.cell?_of_block (a := ⟨X, 1, none⟩) (m6.block X hX4 (.inl hX5))).trans n1
      refine hK.out _ _ (⟨g0, g1⟩) (fun hH => ?_)
      clear hHeld; have hHeld := hH; clear hH hK K
      try simp only [Act.put, List.setIfInBounds_toArray, List.set_cons_zero, List.set_cons_succ]
      refine wpAnyH_take (i := 11) (oi := ?_) (v := ?_) ?_ (by kernel_rfl) (by kernel_rfl) (by kernel_rfl) ?_ (Or.inl ⟨?_, ?_⟩) (by assumption) ?_
      rotate_left 2
      · simp only [List.getElem?_toArray, List.getElem?_cons_succ, List.getElem?_cons_zero]; rfl
      · exact fun _ _ _ h => h
      · rfl
      · (intro w hSw; (try dsimp only at hSw); go_simp) <;> with_reducible rfl
      try simp only [Act.put, List.setIfInBounds_toArray, List.set_cons_zero, List.set_cons_succ]
      refine wpAnyH_done (by kernel_rfl) ?_ _
      refine NoPanic.normal ?_
      try simp only [Act.put, List.setIfInBounds_toArray, List.set_cons_zero, List.set_cons_succ]
      all_goals have va6 := (HX.out.keep bw4).mr m6 hX
      all_goals have x6 : ρ6 X = 4 := (m6.role X hX4).trans hX
      all_goals have mm6 := (MrX.ofBelow ρ X bw4).trans (m6.x X)
      all_goals go_upto_region 12 with fail
      all_goals have hb6 := (Below.refl w6.heap.size w6).drew
      all_goals have g0 : w6.drew.cell? ⟨X, 0, none⟩ = some (.pointer (some ⟨R, 0, none⟩)) := g0
      all_goals have g1 : w6.drew.cell? ⟨X, 1, none⟩ = some (.int .i64 x.file) := g1
      all_goals have hX6 : X < w6.drew.heap.size := Nat.lt_of_lt_of_le hX4 m6.size
      all_goals have hX6r : ρ6 X < 5 := by omega
      all_goals go_region_held3 (fun V => V.cell? ⟨X, 0, none⟩ = some (.pointer (some ⟨R, 0, none⟩)) ∧ V.cell? ⟨X, 1, none⟩ = some (.int .i64 x.file)) (first | exact ⟨g0, g1⟩ | exact ⟨o0, o1⟩ | fail) (first | (go_at_call 58; (with_reducible refine (H2.out _ _ _ (a6.keep hb6) l6).mono ?_); rintro e w7 ⟨rfl, r7, ρ7, l7, a7, m7⟩; have o0 := (World.cell?_of_block (a := ⟨X, 0, none⟩) (m7.block X hX6 (.inl hX6r))).trans g0; have o1 := (World.cell?_of_block (a := ⟨X, 1, none⟩) (m7.block X hX6 (.inl hX6r))).trans g1) | fail)
      all_goals have va7 := (va6.keep hb6).mr m7 x6
      all_goals have x7 : ρ7 X = 4 := (m7.role X hX6).trans x6
      all_goals have mm7 := mm6.trans ((MrX.ofBelow ρ6 X hb6).trans (m7.x X))
      all_goals go_wp2_with (first | (go_at_call 65; (with_reducible refine (rtold_c va7 y2).mono ?_); rintro e w9 ⟨rfl, rfl⟩) | fail)
      all_goals go_ret
      all_goals exact ⟨rfl, by rw [HDT.out]; exact rxl_told a7 va7 x7 l7 mm7 true (by omega) (by omega)⟩
  · have HV : d.addV x ls = (y1, d1, { x with broken := true }) := by
      rw [hA, if_neg z1, if_neg z1]
    rw [HV]
    have e3 : (y1 == 0) = false := beq_false_of_ne z1
    have hdt : (!decide (y1 = 0)) = true := by simp [z1]
    have HDT := Lib.hid hdt
    clear hA HV z1 hdt
    obtain ⟨p, cap, rfl, hcap, hel⟩ := hv.shape
    clear hel hcap hv h hr hx hm0 hns hfb hbk hlg hl0
    generalize strOfNums (framesI x.gen x.n ls) = s at *
    go_enter Tryz.func28, Tryz.ntmps28
    go_upto_region 5 with (first | (go_at_call 64; (with_reducible refine HL.out.mono ?_); rintro e w1 ⟨rfl, hw1⟩; obtain rfl := hw1.symm; clear hw1) | fail)
    go_region_held3 (fun W => W.cell? ⟨X, 2, none⟩ = some (.int .u64 x.gen) ∧ W.cell? ⟨X, 3, none⟩ = some (.int .i64 x.n)) (first | exact ⟨c2d, c3d⟩ | exact ⟨k2, k3⟩ | fail) (first | (go_at_call 67; (with_reducible refine (HFR.out _ hbd).mono ?_); rintro e w2 ⟨rfl, b2⟩; have k2 := (show w2.cell? ⟨X, 2, none⟩ = w.drew.cell? ⟨X, 2, none⟩ from b2.cell hXl).trans c2d; have k3 := (show w2.cell? ⟨X, 3, none⟩ = w.drew.cell? ⟨X, 3, none⟩ from b2.cell hXl).trans c3d) | fail)
    all_goals have b2 := bel_call hbd b2
    all_goals have k0 := (HKC.out _ b2 0).trans c0
    all_goals go_wp2_with (first | (go_at_call 23; (with_reducible refine (HR.out _ b2).mono ?_); rintro e w3 ⟨rfl, q, rfl⟩) | fail)
    all_goals (refine wp_gen (fun W => Below w.heap.size w W) (bel_call b2 (below_drewN w2 q)) ?_; rintro W hbW)
    all_goals have hbWd := bel_call hbW (Below.refl W.heap.size W).drew
    all_goals have m0 : W.drew.cell? ⟨X, 0, none⟩ = some (.pointer (some ⟨R, 0, none⟩)) := (HKC.out W hbW 0).trans c0
    all_goals have m1 : W.drew.cell? ⟨X, 1, none⟩ = some (.int .i64 x.file) := (HKC.out W hbW 1).trans c1
    all_goals obtain ⟨cp, w4, hcv, hta, b4⟩ := text_conv s W.drew
    all_goals rw [HNS.out] at hta
    all_goals have t4 : RdS w4 ρ (.slice (some ⟨W.heap.size, 0, none⟩) (sizeI ls) cp) (framesI x.gen x.n ls) := by (have t4 := hta.rds (ρ := ρ) (HH.out.fresh _ hbWd.size); rw [HSS.out] at t4; exact t4)
    all_goals have bw4 := bel_call hbWd b4
    all_goals have a4 := HH.out.keep bw4
    all_goals have n0 := (HKC.out w4 bw4 0).trans c0
    all_goals have n1 := (HKC.out w4 bw4 1).trans c1
    all_goals have hX4 : X < w4.heap.size := Nat.lt_of_lt_of_le hXl bw4.size
    all_goals have hX5 : ρ X < 5 := by omega
    all_goals have B4 := Lib.hid b4
    all_goals clear b4 hta
    refine wp_region_noPanic ?_
    refine wp_region_held_drew (S := (fun V => V.cell? ⟨X, 0, none⟩ = some (.pointer (some ⟨R, 0, none⟩)) ∧ V.cell? ⟨X, 1, none⟩ = some (.int .i64 x.file))) (by kernel_rfl) (⟨m0, m1⟩) (fun hHeld => ?_)
    refine wpAnyH_take (i := 0) (oi := ?_) (v := ?_) ?_ (by kernel_rfl) (by kernel_rfl) (by kernel_rfl) ?_ (Or.inl ⟨?_, ?_⟩) (by assumption) ?_
    rotate_left 2
    · simp only [List.getElem?_toArray, List.getElem?_cons_zero]; rfl
    · exact fun _ _ _ h => h
    · rfl
    · (intro w hSw; (try dsimp only at hSw); go_simp) <;> with_reducible rfl
    try simp only [Act.put, List.setIfInBounds_toArray, List.set_cons_zero, List.set_cons_succ]
    refine wpAnyH_take (i := 1) (oi := ?_) (v := ?_) ?_ (by kernel_rfl) (by kernel_rfl) (by kernel_rfl) ?_ (Or.inl ⟨?_, ?_⟩) (by assumption) ?_
    rotate_left 2
    · simp only [List.getElem?_toArray, List.getElem?_cons_succ, List.getElem?_cons_zero]; rfl
    · exact fun _ _ _ h => h
    · rfl
    · (intro w hSw; (try dsimp only at hSw); go_simp) <;> with_reducible rfl
    try simp only [Act.put, List.setIfInBounds_toArray, List.set_cons_zero, List.set_cons_succ]
    refine wpAnyH_take (i := 2) (oi := ?_) (v := ?_) ?_ (by kernel_rfl) (by kernel_rfl) (by kernel_rfl) ?_ (Or.inl ⟨?_, ?_⟩) (by assumption) ?_
    rotate_left 2
    · simp only [List.getElem?_toArray, List.getElem?_cons_succ, List.getElem?_cons_zero]; rfl
    · exact fun _ _ _ h => h
    · rfl
    · (intro w hSw; (try dsimp only at hSw); go_simp) <;> with_reducible rfl
    try simp only [Act.put, List.setIfInBounds_toArray, List.set_cons_zero, List.set_cons_succ]
    refine wpAnyH_take (i := 3) (oi := ?_) (v := ?_) ?_ (by kernel_rfl) (by kernel_rfl) (by kernel_rfl) ?_ (Or.inl ⟨?_, ?_⟩) (by assumption) ?_
    rotate_left 2
    · simp only [List.getElem?_toArray, List.getElem?_cons_succ, List.getElem?_cons_zero]; rfl
    · exact fun _ _ _ h => h
    · rfl
    · (intro w hSw; (try dsimp only at hSw); go_simp) <;> with_reducible rfl
    try simp only [Act.put, List.setIfInBounds_toArray, List.set_cons_zero, List.set_cons_succ]
    refine wpAnyH_take (i := 4) (oi := ?_) (v := ?_) ?_ (by kernel_rfl) (by kernel_rfl) (by kernel_rfl) ?_ (Or.inl ⟨?_, ?_⟩) (by assumption) ?_
    rotate_left 2
    · simp only [List.getElem?_toArray, List.getElem?_cons_succ, List.getElem?_cons_zero]; rfl
    · exact fun _ _ _ h => h
    · rfl
    · (intro w hSw; (try dsimp only at hSw); go_simp) <;> with_reducible rfl
    try simp only [Act.put, List.setIfInBounds_toArray, List.set_cons_zero, List.set_cons_succ]
    refine wpAnyH_take (i := 5) (oi := ?_) (v := ?_) ?_ (by kernel_rfl) (by kernel_rfl) (by kernel_rfl) ?_ (Or.inl ⟨?_, ?_⟩) (by assumption) ?_
    rotate_left 2
    · simp only [List.getElem?_toArray, List.getElem?_cons_succ, List.getElem?_cons_zero]; rfl
    · exact fun _ _ _ h => h
    · rfl
    · (intro w hSw; (try dsimp only at hSw); go_simp) <;> with_reducible rfl
    try simp only [Act.put, List.setIfInBounds_toArray, List.set_cons_zero, List.set_cons_succ]
    refine wpAnyH_take (i := 6) (oi := ?_) (v := ?_) ?_ (by kernel_rfl) (by kernel_rfl) (by kernel_rfl) ?_ (Or.inl ⟨?_, ?_⟩) (by assumption) ?_
    rotate_left 2
    · simp only [List.getElem?_toArray, List.getElem?_cons_succ, List.getElem?_cons_zero]; rfl
    · exact fun _ _ _ h => h
    · rfl
    · (intro w hSw; (try dsimp only at hSw); go_simp) <;> with_reducible rfl
    try simp only [Act.put, List.setIfInBounds_toArray, List.set_cons_zero, List.set_cons_succ]
    refine wpAnyH_take (i := 7) (oi := ?_) (v := ?_) ?_ (by kernel_rfl) (by kernel_rfl) (by kernel_rfl) ?_ (Or.inl ⟨?_, ?_⟩) (by assumption) ?_
    rotate_left 2
    · simp only [List.getElem?_toArray, List.getElem?_cons_succ, List.getElem?_cons_zero]; rfl
    · exact fun _ _ _ h => h
    · rfl
    · (intro w hSw; (try dsimp only at hSw); go_simp) <;> with_reducible rfl
    try simp only [Act.put, List.setIfInBounds_toArray, List.set_cons_zero, List.set_cons_succ]
    refine wpAnyH_take (i := 8) (oi := ?_) (v := ?_) ?_ (by kernel_rfl) (by kernel_rfl) (by kernel_rfl) ?_ (Or.inl ⟨?_, ?_⟩) (by assumption) ?_
    rotate_left 2
    · simp only [List.getElem?_toArray, List.getElem?_cons_succ, List.getElem?_cons_zero]; rfl
    · exact fun _ _ _ h => h
    · rfl
    · (intro w hSw; (try dsimp only at hSw); go_simp) <;> with_reducible rfl
    try simp only [Act.put, List.setIfInBounds_toArray, List.set_cons_zero, List.set_cons_succ]
    refine wpAnyH_one 9 (o := ?_) (by kernel_rfl) ?_ (fun K hK => ?_)
    rotate_left 1
    · simp only [List.getElem?_toArray, List.getElem?_cons_succ, List.getElem?_cons_zero]; rfl
    go_simp

    refine hK.out _ _ (⟨n0, n1⟩) (fun hH => ?_)
    clear hHeld; have hHeld := hH; clear hH hK K
    try simp only [Act.put, List.setIfInBounds_toArray, List.set_cons_zero, List.set_cons_succ]
    refine wpAnyH_one 10 (o := ?_) (by kernel_rfl) ?_ (fun K hK => ?_)
    rotate_left 1
    · simp only [List.getElem?_toArray, List.getElem?_cons_succ, List.getElem?_cons_zero]; rfl
    go_simp
    (with_reducible refine (H1.out _ _ a4 _ t4).mono ?_); rintro e w6 ⟨rfl, r6, ρ6, l6, a6, m6⟩; have g0 := (World.cell?_of_block (a := ⟨X, 0, none⟩) (m6.block X hX4 (.inl hX5))).trans n0; have g1 := (World.cell?_of_block (a := ⟨X, 1, none⟩) (m6.block X hX4 (.inl hX5))).trans n1
    refine hK.out _ _ (⟨g0, g1⟩) (fun hH => ?_)
    clear hHeld; have hHeld := hH; clear hH hK K
    try simp only [Act.put, List.setIfInBounds_toArray, List.set_cons_zero, List.set_cons_succ]
    refine wpAnyH_take (i := 11) (oi := ?_) (v := ?_) ?_ (by kernel_rfl) (by kernel_rfl) (by kernel_rfl) ?_ (Or.inl ⟨?_, ?_⟩) (by assumption) ?_
    rotate_left 2
    · simp only [List.getElem?_toArray, List.getElem?_cons_succ, List.getElem?_cons_zero]; rfl
    · exact fun _ _ _ h => h
    · rfl
    · (intro w hSw; (try dsimp only at hSw); go_simp) <;> with_reducible rfl
    try simp only [Act.put, List.setIfInBounds_toArray, List.set_cons_zero, List.set_cons_succ]
    refine wpAnyH_done (by kernel_rfl) ?_ _
    refine NoPanic.normal ?_
    try simp only [Act.put, List.setIfInBounds_toArray, List.set_cons_zero, List.set_cons_succ]
    all_goals have va6 := (HX.out.keep bw4).mr m6 hX
    all_goals have x6 : ρ6 X = 4 := (m6.role X hX4).trans hX
    all_goals have mm6 := (MrX.ofBelow ρ X bw4).trans (m6.x X)
    all_goals go_wp2_with (first | (go_at_call 65; (with_reducible refine (rtold_c va6 y1).mono ?_); rintro e w9 ⟨rfl, rfl⟩) | fail)
    all_goals go_ret
    all_goals exact ⟨rfl, by rw [HDT.out]; exact rxl_told a6 va6 x6 l6 mm6 true (by omega) (by omega)⟩
theorem radd_c (h : RefAt w ρ R r) (hx : VaAt w X R x) (hX : ρ X = 4) (hr : Rel d r k m) (hk : k ≤ 90000) (hm : m ≤ 900000) (v : Value) (ls : List (List Int)) (hv : RdL w v ls) (hlb : ∀ r ∈ ls, Bytes r) (hsz : sizeI ls ≤ 90000) (hln : ls.length ≤ 250000) (hn : 0 ≤ x.n ∧ x.n ≤ 1000000) :
    Calls Tryz.prog 28 #[.pointer (some ⟨X, 0, none⟩), v] w fun e w' => e = .returned (.int .i64 (d.addV x ls).1) ∧ RXL ρ R X w (d.addV x ls).2.1 (d.addV x ls).2.2 (k + 3) (m + (44 + sizeI ls)) w' := by
  by_cases hm0 : vmayv x.broken ls = 0
  · by_cases hlt : roomF d < sizeI ls
    · exact radd_full h hx hX hr hk hm v ls hv hlb hsz hln hn hm0 hlt
    · by_cases h0 : ls.length = 0
      · exact radd_none h hx hX hr hk hm v ls hv hlb hsz hln hn hm0 hlt h0
      · exact radd_go h hx hX hr hk hm v ls hv hlb hsz hln hn hm0 hlt h0
  · have hA : d.addV x ls = (vmayv x.broken ls, d, x) := by unfold Dk.addV; rw [if_pos hm0]
    rw [hA]
    exact radd_no h hx hX hr v ls hv hln hm0 _ _ (by omega) (by omega)
end
end Go.Proofs.YtfohemgfiidokaaGreatDoor
