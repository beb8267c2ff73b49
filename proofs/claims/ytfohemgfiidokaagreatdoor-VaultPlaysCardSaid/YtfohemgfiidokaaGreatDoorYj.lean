/- vault's begin. -/
import Derived.Test.YtfohemgfiidokaaGreatDoorYi
namespace Go.Proofs.YtfohemgfiidokaaGreatDoor
open Go.RowKit Go.Sort

/-- calls of a disk, one after the other, up to the first error -/
def seqD : List (Dk → Int × Dk) → Dk → Int × Dk
  | [], d => (0, d)
  | f :: t, d => if (f d).1 = 0 then seqD t (f d).2 else f d
theorem seqD_zero {f : Dk → Int × Dk} {t : List (Dk → Int × Dk)} {d : Dk} (h : (f d).1 = 0) : seqD (f :: t) d = seqD t (f d).2 := by rw [seqD, if_pos h]
theorem seqD_ne {f : Dk → Int × Dk} {t : List (Dk → Int × Dk)} {d : Dk} (h : (f d).1 ≠ 0) : seqD (f :: t) d = f d := by rw [seqD, if_neg h]

theorem Left.after {w w1 w' : World} {ρ : Nat → Nat} {B D : Nat} {d : Dk} (hb : Below w.heap.size w w1) (h : Left ρ B D w1 d w') : Left ρ B D w d w' := by
  obtain ⟨ρ', h1, h2⟩ := h
  exact ⟨ρ', h1, (Mv.ofBelow ρ hb).trans h2⟩
theorem KTab.mv {w w' : World} {ρ ρ' : Nat → Nat} (h : KTab w) (m : Mv ρ ρ' w w') (hr : ρ 0 = 0) : KTab w' := by
  have hl := h.lt
  obtain ⟨t, fr, h⟩ := h
  exact ⟨t, fr, by rw [m.block _ hl (.inl hr)]; exact h⟩
/-- a block that the call has laid is one of the caller's own -/
theorem DiskAt.box {w : World} {ρ : Nat → Nat} {B D : Nat} {d : Dk} (h : DiskAt w ρ B D d) (o : Obj) : DiskAt (w.alloc o) (fun k => if k = w.heap.size then 4 else ρ k) B D d ∧ Mv ρ (fun k => if k = w.heap.size then 4 else ρ k) w (w.alloc o) := by
  have hs : (w.alloc o).heap.size = w.heap.size + 1 := by simp
  have hb : Below w.heap.size w (w.alloc o) := bel_alloc (Below.refl _ _) o
  refine ⟨h.other (by omega) (fun g hg _ => ⟨by rw [if_neg (by omega)], Below.heap_alloc _ _ _ hg⟩) (fun k hk => by rw [if_neg (by omega)]; exact h.fresh k (by omega)), hb.os, hb.tape, hb.output, hb.size, fun g hg => by rw [if_neg (by omega)], fun g hg _ => hb.block g hg⟩

/-- what a vault has where the call has laid it -/
def VLeft (ρ : Nat → Nat) (B D : Nat) (w : World) (d : Dk) (x : Va) (V : Nat) (w' : World) : Prop := ∃ ρ', DiskAt w' ρ' B D d ∧ Mv ρ ρ' w w' ∧ VaAt w' V D x ∧ ρ' V = 4 ∧ w.heap.size ≤ V

set_option maxRecDepth 100000 in
theorem begin1_c {w : World} {ρ : Nat → Nat} {B D : Nat} {d : Dk} (h : DiskAt w ρ B D d) (ok : DOk d) (b : Nat) (cb : w.cell? ⟨b, 0, none⟩ = some (.pointer (some ⟨D, 0, none⟩))) :
    Calls Tryz.prog 72 #[.pointer (some ⟨b, 0, none⟩)] w fun e w' => e = .returned (.int .i64 (d.vcut 1 0).1) ∧ Left ρ B D w (d.vcut 1 0).2 w' := by
  have hc := vcut_c h ok 1 0
  go_enter Tryz.func72, Tryz.ntmps72
  go_wp2_with (go_at_call 33; with_reducible refine hc.mono ?_; rintro e w1 ⟨rfl, hl⟩)
  go_ret
  exact ⟨rfl, hl⟩
set_option maxRecDepth 100000 in
theorem begin2_c {w : World} {ρ : Nat → Nat} {B D : Nat} {d : Dk} (h : DiskAt w ρ B D d) (ok : DOk d) (b : Nat) (cb : w.cell? ⟨b, 0, none⟩ = some (.pointer (some ⟨D, 0, none⟩))) :
    Calls Tryz.prog 73 #[.pointer (some ⟨b, 0, none⟩)] w fun e w' => e = .returned (.int .i64 (d.vcut 0 0).1) ∧ Left ρ B D w (d.vcut 0 0).2 w' := by
  have hc := vcut_c h ok 0 0
  go_enter Tryz.func73, Tryz.ntmps73
  go_wp2_with (go_at_call 33; with_reducible refine hc.mono ?_; rintro e w1 ⟨rfl, hl⟩)
  go_ret
  exact ⟨rfl, hl⟩
set_option maxRecDepth 100000 in
theorem begin4_c {w : World} {ρ : Nat → Nat} {B D : Nat} {d : Dk} (h : DiskAt w ρ B D d) (ok : DOk d) (b : Nat) (cb : w.cell? ⟨b, 0, none⟩ = some (.pointer (some ⟨D, 0, none⟩))) :
    Calls Tryz.prog 75 #[.pointer (some ⟨b, 0, none⟩)] w fun e w' => e = .returned (.int .i64 (d.sync 1).1) ∧ Left ρ B D w (d.sync 1).2 w' := by
  have hc := sync_any h ok 1
  go_enter Tryz.func75, Tryz.ntmps75
  go_wp2_with (go_at_call 35; with_reducible refine hc.mono ?_; rintro e w1 ⟨rfl, hl⟩)
  go_ret
  exact ⟨rfl, hl⟩
set_option maxRecDepth 100000 in
theorem begin3_c {w : World} {ρ : Nat → Nat} {B D : Nat} {d : Dk} (h : DiskAt w ρ B D d) (ok : DOk d) (b : Nat) (cb : w.cell? ⟨b, 0, none⟩ = some (.pointer (some ⟨D, 0, none⟩))) (hk : KTab w) :
    Calls Tryz.prog 74 #[.pointer (some ⟨b, 0, none⟩)] w fun e w' => e = .returned (.int .i64 (d.write 1 (headI 1 0)).1) ∧ Left ρ B D w (d.write 1 (headI 1 0)).2 w' := by
  have hh : Calls Tryz.prog 47 #[.int .u64 1, .int .i64 0] w.drew fun e w' => ∃ v, e = .returned v ∧ RowO w' w.heap.size v (headI 1 0) ∧ Below w.heap.size w w' := (head_c 1 0 w.drew (by omega) (by omega) (hk.call (Below.refl _ w).drew)).mono fun e w' ⟨v, he, hr, hb⟩ => ⟨v, he, hr, after_call (Below.refl _ w).drew hb⟩
  have hw := fun W v (hb : Below w.heap.size w W) (hr : RowO W w.heap.size v (headI 1 0)) => write_any (h.keep hb) ok 1 v (headI 1 0) (hr.rds h.fresh) (by rw [headI_len]; omega)
  generalize headI 1 0 = s at *
  generalize d.write 1 s = r at *
  have HW := Lib.hid hw
  clear hw
  have lb := block_lt_of_cell cb
  go_enter Tryz.func74, Tryz.ntmps74
  go_upto_region 1 with fail
  go_region_with (first
    | (go_at_call 47; with_reducible refine hh.mono ?_; rintro e w1 ⟨v1, rfl, hr2, hb2⟩; have cb1 := (hb2.cell lb).trans cb)
    | (go_at_call 41; with_reducible refine (HW.out _ _ hb2 hr2).mono ?_; rintro e w2 ⟨rfl, hl2⟩))
  all_goals go_wp2
  all_goals go_ret
  all_goals exact ⟨rfl, Left.after hb2 hl2⟩

/-- what begin does to a disk -/
def beginL : List (Dk → Int × Dk) := [fun d => d.vcut 1 0, fun d => d.vcut 0 0, fun d => d.write 1 (headI 1 0), fun d => d.sync 1]
def Dk.begin (d : Dk) : Int × Dk := seqD beginL d

theorem begin_all {w : World} {ρ : Nat → Nat} {B D : Nat} {d : Dk} {k m : Nat} (h : DiskAt w ρ B D d) (hz : DSz d k m) (hk : k ≤ 900000) (hm : m ≤ 90000000) (ht : KTab w) (hr : ρ 0 = 0) (b g cap : Nat)
    (cb : w.cell? ⟨b, 0, none⟩ = some (.pointer (some ⟨D, 0, none⟩))) (rb : ρ b = 0) (rg : ρ g = 0)
    (c0 : w.cell? ⟨g, 0, none⟩ = some (.func (.func 72) #[] #[.pointer (some ⟨b, 0, none⟩)])) (c1 : w.cell? ⟨g, 1, none⟩ = some (.func (.func 73) #[] #[.pointer (some ⟨b, 0, none⟩)]))
    (c2 : w.cell? ⟨g, 2, none⟩ = some (.func (.func 74) #[] #[.pointer (some ⟨b, 0, none⟩)])) (c3 : w.cell? ⟨g, 3, none⟩ = some (.func (.func 75) #[] #[.pointer (some ⟨b, 0, none⟩)])) :
    Calls Tryz.prog 31 #[.slice (some ⟨g, 0, none⟩) 4 cap] w fun e w' => e = .returned (.int .i64 d.begin.1) ∧ Left ρ B D w d.begin.2 w' := by
  have lb := block_lt_of_cell cb
  have lg : g < w.heap.size := block_lt_of_cell c0
  let J : Nat → World → Prop := fun i W => ∃ di, seqD beginL d = seqD (beginL.drop i) di ∧ DSz di (k + i) (m + 44 * i) ∧ Left ρ B D w di W
  let E : Int → World → Prop := fun r W => (seqD beginL d).1 = r ∧ Left ρ B D w (seqD beginL d).2 W
  have cell : ∀ (a : Nat) (o : Nat) (v : Value), w.cell? ⟨a, o, none⟩ = some v → ρ a = 0 → ∀ i W, J i W → W.cell? ⟨a, o, none⟩ = some v := fun a o v hc hra i W ⟨di, _, _, ρ', _, m'⟩ => (World.cell?_of_block (m'.block a (block_lt_of_cell hc) (.inl hra))).trans hc
  have step : ∀ (i : Nat) (f : Dk → Int × Dk) (n : Nat) (args : Array Value) (W : World), i < 4 → beginL.drop i = f :: beginL.drop (i + 1) → (∀ di, DSz di (k + i) (m + 44 * i) → DSz (f di).2 (k + (i + 1)) (m + 44 * (i + 1))) → J i W →
      (∀ ρ' di, DiskAt W ρ' B D di → DOk di → KTab W → Calls Tryz.prog n args W fun e w' => e = .returned (.int .i64 (f di).1) ∧ Left ρ' B D W (f di).2 w') →
      Calls Tryz.prog n args W fun e W' => ∃ r, e = .returned (.int .i64 r) ∧ (r = 0 → J (i + 1) W') ∧ (r ≠ 0 → E r W') := fun i f n args W hi hd hf ⟨di, hs, hsz, ρ', h1, m1⟩ hc => by
    refine (hc ρ' di h1 (hsz.ok (by omega) (by omega)) (ht.mv m1 hr)).mono fun e w' ⟨he, ρ'', h2, m2⟩ => ⟨_, he, fun hz0 => ?_, fun hnz => ?_⟩
    · exact ⟨(f di).2, by rw [hs, hd, seqD_zero hz0], hf di hsz, ρ'', h2, m1.trans m2⟩
    · have e2 : seqD beginL d = f di := by rw [hs, hd, seqD_ne hnz]
      exact ⟨by rw [e2], by rw [e2]; exact ⟨ρ'', h2, m1.trans m2⟩⟩
  have cbi := cell b 0 _ cb rb
  refine (all_begin g cap (.pointer (some ⟨b, 0, none⟩)) w J E (cell g 0 _ c0 rg 0) (fun W hJ => step 0 _ _ _ W (by omega) rfl (fun di hd => (hd.vcut 1 0).up (by omega) (by omega)) hJ fun ρ' di h1 ok _ => begin1_c h1 ok b (cbi 0 W hJ))
    (cell g 1 _ c1 rg 1) (fun W hJ => step 1 _ _ _ W (by omega) rfl (fun di hd => (hd.vcut 0 0).up (by omega) (by omega)) hJ fun ρ' di h1 ok _ => begin2_c h1 ok b (cbi 1 W hJ))
    (cell g 2 _ c2 rg 2) (fun W hJ => step 2 _ _ _ W (by omega) rfl (fun di hd => (hd.write 1 (headI 1 0)).up (by omega) (by rw [headI_len]; omega)) hJ fun ρ' di h1 ok hk => begin3_c h1 ok b (cbi 2 W hJ) hk)
    (cell g 3 _ c3 rg 3) (fun W hJ => step 3 _ _ _ W (by omega) rfl (fun di hd => (hd.sync 1).up (by omega) (by omega)) hJ fun ρ' di h1 ok _ => begin4_c h1 ok b (cbi 3 W hJ))
    ⟨d, rfl, hz.up (by omega) (by omega), ρ, h, Mv.refl ρ w⟩).mono fun e w' ⟨r, he, hz0, hnz⟩ => ?_
  subst he
  by_cases hr0 : r = 0
  · obtain ⟨di, hs, -, hl⟩ := hz0 hr0
    have e2 : d.begin = (0, di) := hs
    rw [e2, hr0]
    exact ⟨rfl, hl⟩
  · obtain ⟨e1, hl⟩ := hnz hr0
    exact ⟨congrArg (fun z : Int => Ending.returned (.int .i64 z)) e1.symm, hl⟩

set_option maxRecDepth 100000 in
theorem begin_c {w : World} {ρ : Nat → Nat} {B D : Nat} {d : Dk} {k m : Nat} (h : DiskAt w ρ B D d) (hz : DSz d k m) (hk : k ≤ 900000) (hm : m ≤ 90000000) (ht : KTab w) (hr : ρ 0 = 0) :
    Calls Tryz.prog 30 #[.pointer (some ⟨D, 0, none⟩)] w fun e w' => (d.begin.1 = 0 → ∃ V, e = .returned (.tuple #[.pointer (some ⟨V, 0, none⟩), .int .i64 0]) ∧ VLeft ρ B D w d.begin.2 ⟨1, 1, 0, false⟩ V w') ∧
      (d.begin.1 ≠ 0 → e = .returned (.tuple #[.pointer none, .int .i64 d.begin.1]) ∧ Left ρ B D w d.begin.2 w') := by
  have hmf : ∀ (fn : Fn) (first cap : Array Value) (w : World), (Instr.makeFunc fn first cap).run Tryz.prog w = .ok (.func fn first cap) w := fun _ _ _ _ => rfl
  generalize hW : (w.alloc (.cells #[.pointer (some ⟨D, 0, none⟩)] 26)).alloc (.cells #[.func (.func 72) #[] #[.pointer (some ⟨w.heap.size, 0, none⟩)], .func (.func 73) #[] #[.pointer (some ⟨w.heap.size, 0, none⟩)], .func (.func 74) #[] #[.pointer (some ⟨w.heap.size, 0, none⟩)], .func (.func 75) #[] #[.pointer (some ⟨w.heap.size, 0, none⟩)]] 54) = W
  have hbW : Below w.heap.size w W := by rw [← hW]; exact bel_alloc (bel_alloc (Below.refl _ _) _) _
  have cb : W.cell? ⟨w.heap.size, 0, none⟩ = some (.pointer (some ⟨D, 0, none⟩)) := by rw [← hW]; simp [go_sem]
  have cg : ∀ j, W.cell? ⟨w.heap.size + 1, j, none⟩ = (#[.func (.func 72) #[] #[.pointer (some ⟨w.heap.size, 0, none⟩)], .func (.func 73) #[] #[.pointer (some ⟨w.heap.size, 0, none⟩)], .func (.func 74) #[] #[.pointer (some ⟨w.heap.size, 0, none⟩)], .func (.func 75) #[] #[.pointer (some ⟨w.heap.size, 0, none⟩)]] : Array Value)[j]? := fun j => by
    rw [← hW]
    have := heap_alloc_new (w.alloc (.cells #[.pointer (some ⟨D, 0, none⟩)] 26)) (.cells #[.func (.func 72) #[] #[.pointer (some ⟨w.heap.size, 0, none⟩)], .func (.func 73) #[] #[.pointer (some ⟨w.heap.size, 0, none⟩)], .func (.func 74) #[] #[.pointer (some ⟨w.heap.size, 0, none⟩)], .func (.func 75) #[] #[.pointer (some ⟨w.heap.size, 0, none⟩)]] 54)
    rw [World.size_alloc] at this
    exact cell_of_row _ _ _ _ _ _ this
  have ka := begin_all (h.keep hbW) hz hk hm (ht.call hbW) hr w.heap.size (w.heap.size + 1) 4 cb (h.fresh _ (Nat.le_refl _)) (h.fresh _ (by omega)) (cg 0) (cg 1) (cg 2) (cg 3)
  have HBW := Lib.hid hbW
  have rb := h.fresh w.heap.size (Nat.le_refl _)
  generalize d.begin = r at *
  obtain ⟨r, d'⟩ := r
  dsimp only at ka ⊢
  clear cg hbW
  by_cases h0 : r = 0
  · subst h0
    go_enter Tryz.func30, Tryz.ntmps30
    go_upto_region 4 with (go_at_call 31; with_reducible refine ka.mono ?_; rintro e w1 ⟨rfl, hl⟩)
    obtain ⟨ρ', h1, m1⟩ := hl
    have cb1 := (World.cell?_of_block (m1.block _ (block_lt_of_cell cb) (.inl rb))).trans cb
    go_wp2
    go_ret2
    refine ⟨fun _ => ⟨w1.heap.size, rfl, ?_⟩, fun e => absurd rfl e⟩
    obtain ⟨h2, m2⟩ := h1.box (.cells #[.pointer (some ⟨D, 0, none⟩), .int .i64 1, .int .u64 1, .int .i64 0, .bool false] 89)
    refine ⟨_, h2, ((Mv.ofBelow ρ HBW.out).trans m1).trans m2, ?_, if_pos rfl, Nat.le_trans HBW.out.size m1.size⟩
    have hc := heap_alloc_new w1 (.cells #[.pointer (some ⟨D, 0, none⟩), .int .i64 1, .int .u64 1, .int .i64 0, .bool false] 89)
    refine ⟨cell_of_row _ _ _ _ _ _ hc, cell_of_row _ _ _ _ _ _ hc, cell_of_row _ _ _ _ _ _ hc, cell_of_row _ _ _ _ _ _ hc, cell_of_row _ _ _ _ _ _ hc, fun o => ?_⟩
    unfold World.frozen?
    rw [hc]
    simp
  · have hq : (r == 0) = false := by rw [beq_eq_false_iff_ne]; exact h0
    have H0 := Lib.hid h0
    clear h0
    go_enter Tryz.func30, Tryz.ntmps30
    go_wp2_with (go_at_call 31; with_reducible refine ka.mono ?_; rintro e w1 ⟨rfl, hl⟩)
    go_ret2
    exact ⟨fun e => absurd e H0.out, fun _ => ⟨rfl, Left.after HBW.out hl⟩⟩
end Go.Proofs.YtfohemgfiidokaaGreatDoor
