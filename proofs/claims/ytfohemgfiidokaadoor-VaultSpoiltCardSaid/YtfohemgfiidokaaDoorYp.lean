/- vault's Open: its closures. -/
import Derived.Test.YtfohemgfiidokaaDoorYo
namespace Go.Proofs.YtfohemgfiidokaaDoor
open Go.RowKit Go.Sort

set_option maxRecDepth 100000 in
theorem open1_c {w : World} {ρ : Nat → Nat} {B D : Nat} {d : Dk} (h : DiskAt w ρ B D d) (ok : DOk d) (b b2 : Nat) (f good gg : Int) (rv : Value) (cb : w.cell? ⟨b, 0, none⟩ = some (.pointer (some ⟨D, 0, none⟩))) (hr : RowV 70 b2 [.int .i64 f, .int .u64 gg, rv, .int .i64 good] w) :
    Calls Tryd.prog 30 #[.pointer (some ⟨b, 0, none⟩), .pointer (some ⟨b2, 0, none⟩)] w fun e w' => e = .returned (.int .i64 (d.vcut f good).1) ∧ Left ρ B D w (d.vcut f good).2 w' := by
  have hc := vcut_c h ok f good
  have x0 := hr.cell 0
  have x3 := hr.cell 3
  simp only [List.getElem?_cons_zero, List.getElem?_cons_succ] at x0 x3
  generalize d.vcut f good = r at *
  go_enter Tryd.func30, Tryd.ntmps30
  go_wp2_with (go_at_call 31; with_reducible refine hc.mono ?_; rintro e w1 ⟨rfl, hl⟩)
  go_ret
  exact ⟨rfl, hl⟩
set_option maxRecDepth 100000 in
theorem open2_c {w : World} {ρ : Nat → Nat} {B D : Nat} {d : Dk} (h : DiskAt w ρ B D d) (ok : DOk d) (b b2 : Nat) (f good gg : Int) (rv : Value) (cb : w.cell? ⟨b, 0, none⟩ = some (.pointer (some ⟨D, 0, none⟩))) (hr : RowV 70 b2 [.int .i64 f, .int .u64 gg, rv, .int .i64 good] w) :
    Calls Tryd.prog 32 #[.pointer (some ⟨b, 0, none⟩), .pointer (some ⟨b2, 0, none⟩)] w fun e w' => e = .returned (.int .i64 (d.sync f).1) ∧ Left ρ B D w (d.sync f).2 w' := by
  have hc := sync_any h ok f
  have x0 := hr.cell 0
  simp only [List.getElem?_cons_zero] at x0
  generalize d.sync f = r at *
  go_enter Tryd.func32, Tryd.ntmps32
  go_wp2_with (go_at_call 33; with_reducible refine hc.mono ?_; rintro e w1 ⟨rfl, hl⟩)
  go_ret
  exact ⟨rfl, hl⟩
set_option maxRecDepth 100000 in
theorem open3_c {w : World} {ρ : Nat → Nat} {B D : Nat} {d : Dk} (h : DiskAt w ρ B D d) (ok : DOk d) (b b2 : Nat) (f good gg : Int) (rv : Value) (hf : 0 ≤ f ∧ f ≤ 1) (cb : w.cell? ⟨b, 0, none⟩ = some (.pointer (some ⟨D, 0, none⟩))) (hr : RowV 70 b2 [.int .i64 f, .int .u64 gg, rv, .int .i64 good] w) :
    Calls Tryd.prog 34 #[.pointer (some ⟨b, 0, none⟩), .pointer (some ⟨b2, 0, none⟩)] w fun e w' => e = .returned (.int .i64 (d.vcut (1 - f) 0).1) ∧ Left ρ B D w (d.vcut (1 - f) 0).2 w' := by
  have hc := vcut_c h ok (1 - f) 0
  have x0 := hr.cell 0
  simp only [List.getElem?_cons_zero] at x0
  have hw : IntKind.i64.wrap (1 - f) = 1 - f := by rw [IntKind.wrap_i64]; omega
  generalize d.vcut (1 - f) 0 = r at *
  go_enter Tryd.func34, Tryd.ntmps34
  go_wp2_with (go_at_call 31; with_reducible refine hc.mono ?_; rintro e w1 ⟨rfl, hl⟩)
  go_ret
  exact ⟨rfl, hl⟩

theorem openV_all {w : World} {ρ : Nat → Nat} {B D : Nat} {d : Dk} {k m : Nat} (h : DiskAt w ρ B D d) (hz : DSz d k m) (hk : k ≤ 900000) (hm : m ≤ 90000000) (f good : Nat) (hf : f < 2) (gg : Int) (rv : Value) (b b2 g cap : Nat)
    (cb : w.cell? ⟨b, 0, none⟩ = some (.pointer (some ⟨D, 0, none⟩))) (cr : RowV 70 b2 [.int .i64 f, .int .u64 gg, rv, .int .i64 good] w) (rb : ρ b = 0) (rb2 : ρ b2 = 0) (rg : ρ g = 0)
    (c0 : w.cell? ⟨g, 0, none⟩ = some (.func (.func 30) #[] #[.pointer (some ⟨b, 0, none⟩), .pointer (some ⟨b2, 0, none⟩)])) (c1 : w.cell? ⟨g, 1, none⟩ = some (.func (.func 32) #[] #[.pointer (some ⟨b, 0, none⟩), .pointer (some ⟨b2, 0, none⟩)]))
    (c2 : w.cell? ⟨g, 2, none⟩ = some (.func (.func 34) #[] #[.pointer (some ⟨b, 0, none⟩), .pointer (some ⟨b2, 0, none⟩)])) :
    Calls Tryd.prog 29 #[.slice (some ⟨g, 0, none⟩) 3 cap] w fun e w' => e = .returned (.int .i64 (seqD (openL f good) d).1) ∧ Left ρ B D w (seqD (openL f good) d).2 w' := by
  let J : Nat → World → Prop := fun i W => ∃ di, seqD (openL f good) d = seqD ((openL f good).drop i) di ∧ DSz di (k + i) m ∧ Left ρ B D w di W
  let E : Int → World → Prop := fun r W => (seqD (openL f good) d).1 = r ∧ Left ρ B D w (seqD (openL f good) d).2 W
  have cell : ∀ (a : Nat) (o : Nat) (v : Value), w.cell? ⟨a, o, none⟩ = some v → ρ a = 0 → ∀ i W, J i W → W.cell? ⟨a, o, none⟩ = some v := fun a o v hc hra i W ⟨di, _, _, ρ', _, m'⟩ => (World.cell?_of_block (m'.block a (block_lt_of_cell hc) (.inl hra))).trans hc
  have row : ∀ i W, J i W → RowV 70 b2 [.int .i64 f, .int .u64 gg, rv, .int .i64 good] W := fun i W ⟨di, _, _, ρ', _, m'⟩ => (m'.block b2 cr.lt (.inl rb2)).trans cr
  have step : ∀ (i : Nat) (fn : Dk → Int × Dk) (n : Nat) (args : Array Value) (W : World), i < 4 → (openL f good).drop i = fn :: (openL f good).drop (i + 1) → (∀ di, DSz di (k + i) m → DSz (fn di).2 (k + (i + 1)) m) → J i W →
      (∀ ρ' di, DiskAt W ρ' B D di → DOk di → Calls Tryd.prog n args W fun e w' => e = .returned (.int .i64 (fn di).1) ∧ Left ρ' B D W (fn di).2 w') →
      Calls Tryd.prog n args W fun e W' => ∃ r, e = .returned (.int .i64 r) ∧ (r = 0 → J (i + 1) W') ∧ (r ≠ 0 → E r W') := fun i fn n args W hi hd hf ⟨di, hs, hsz, ρ', h1, m1⟩ hc => by
    refine (hc ρ' di h1 (hsz.ok (by omega) (by omega))).mono fun e w' ⟨he, ρ'', h2, m2⟩ => ⟨_, he, fun hz0 => ?_, fun hnz => ?_⟩
    · exact ⟨(fn di).2, by rw [hs, hd, seqD_zero hz0], hf di hsz, ρ'', h2, m1.trans m2⟩
    · have e2 : seqD (openL f good) d = fn di := by rw [hs, hd, seqD_ne hnz]
      exact ⟨by rw [e2], by rw [e2]; exact ⟨ρ'', h2, m1.trans m2⟩⟩
  have cbi := cell b 0 _ cb rb
  refine (all_open g cap (.pointer (some ⟨b, 0, none⟩)) (.pointer (some ⟨b2, 0, none⟩)) w J E
    (cell g 0 _ c0 rg 0) (fun W hJ => step 0 _ _ _ W (by omega) rfl (fun di hd => hd.vcut f good) hJ fun ρ' di h1 ok => open1_c h1 ok b b2 f good gg rv (cbi 0 W hJ) (row 0 W hJ))
    (cell g 1 _ c1 rg 1) (fun W hJ => step 1 _ _ _ W (by omega) rfl (fun di hd => (hd.sync f).up (by omega) (by omega)) hJ fun ρ' di h1 ok => open2_c h1 ok b b2 f good gg rv (cbi 1 W hJ) (row 1 W hJ))
    (cell g 2 _ c2 rg 2) (fun W hJ => step 2 _ _ _ W (by omega) rfl (fun di hd => hd.vcut (1 - f) 0) hJ fun ρ' di h1 ok => open3_c h1 ok b b2 f good gg rv ⟨by omega, by omega⟩ (cbi 2 W hJ) (row 2 W hJ))
    ⟨d, rfl, hz, ρ, h, Mv.refl ρ w⟩).mono fun e w' ⟨r, he, hz0, hnz⟩ => ?_
  subst he
  by_cases hr0 : r = 0
  · obtain ⟨di, hs, -, hl⟩ := hz0 hr0
    have e2 : seqD (openL f good) d = (0, di) := hs
    rw [e2, hr0]
    exact ⟨rfl, hl⟩
  · obtain ⟨e1, hl⟩ := hnz hr0
    exact ⟨congrArg (fun z : Int => Ending.returned (.int .i64 z)) e1.symm, hl⟩
end Go.Proofs.YtfohemgfiidokaaDoor
