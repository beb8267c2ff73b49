/- vault's Open: its closures. vault's Open: the loop over its two files. -/
import Derived.Test.YtfohemgfiidokaaGreatDoorYo
namespace Go.Proofs.YtfohemgfiidokaaGreatDoor
open Go.RowKit Go.Sort

set_option maxRecDepth 100000 in
theorem open1_c {w : World} {ρ : Nat → Nat} {B D : Nat} {d : Dk} (h : DiskAt w ρ B D d) (ok : DOk d) (b b2 : Nat) (f good gg : Int) (rv : Value) (cb : w.cell? ⟨b, 0, none⟩ = some (.pointer (some ⟨D, 0, none⟩))) (hr : RowV 82 b2 [.int .i64 f, .int .u64 gg, rv, .int .i64 good] w) :
    Calls Tryz.prog 32 #[.pointer (some ⟨b, 0, none⟩), .pointer (some ⟨b2, 0, none⟩)] w fun e w' => e = .returned (.int .i64 (d.vcut f good).1) ∧ Left ρ B D w (d.vcut f good).2 w' := by
  have hc := vcut_c h ok f good
  have x0 := hr.cell 0
  have x3 := hr.cell 3
  simp only [List.getElem?_cons_zero, List.getElem?_cons_succ] at x0 x3
  generalize d.vcut f good = r at *
  go_enter Tryz.func32, Tryz.ntmps32
  go_wp2_with (go_at_call 33; with_reducible refine hc.mono ?_; rintro e w1 ⟨rfl, hl⟩)
  go_ret
  exact ⟨rfl, hl⟩
set_option maxRecDepth 100000 in
theorem open2_c {w : World} {ρ : Nat → Nat} {B D : Nat} {d : Dk} (h : DiskAt w ρ B D d) (ok : DOk d) (b b2 : Nat) (f good gg : Int) (rv : Value) (cb : w.cell? ⟨b, 0, none⟩ = some (.pointer (some ⟨D, 0, none⟩))) (hr : RowV 82 b2 [.int .i64 f, .int .u64 gg, rv, .int .i64 good] w) :
    Calls Tryz.prog 34 #[.pointer (some ⟨b, 0, none⟩), .pointer (some ⟨b2, 0, none⟩)] w fun e w' => e = .returned (.int .i64 (d.sync f).1) ∧ Left ρ B D w (d.sync f).2 w' := by
  have hc := sync_any h ok f
  have x0 := hr.cell 0
  simp only [List.getElem?_cons_zero] at x0
  generalize d.sync f = r at *
  go_enter Tryz.func34, Tryz.ntmps34
  go_wp2_with (go_at_call 35; with_reducible refine hc.mono ?_; rintro e w1 ⟨rfl, hl⟩)
  go_ret
  exact ⟨rfl, hl⟩
set_option maxRecDepth 100000 in
theorem open3_c {w : World} {ρ : Nat → Nat} {B D : Nat} {d : Dk} (h : DiskAt w ρ B D d) (ok : DOk d) (b b2 : Nat) (f good gg : Int) (rv : Value) (hf : 0 ≤ f ∧ f ≤ 1) (cb : w.cell? ⟨b, 0, none⟩ = some (.pointer (some ⟨D, 0, none⟩))) (hr : RowV 82 b2 [.int .i64 f, .int .u64 gg, rv, .int .i64 good] w) :
    Calls Tryz.prog 36 #[.pointer (some ⟨b, 0, none⟩), .pointer (some ⟨b2, 0, none⟩)] w fun e w' => e = .returned (.int .i64 (d.vcut (1 - f) 0).1) ∧ Left ρ B D w (d.vcut (1 - f) 0).2 w' := by
  have hc := vcut_c h ok (1 - f) 0
  have x0 := hr.cell 0
  simp only [List.getElem?_cons_zero] at x0
  have hw : IntKind.i64.wrap (1 - f) = 1 - f := by rw [IntKind.wrap_i64]; omega
  generalize d.vcut (1 - f) 0 = r at *
  go_enter Tryz.func36, Tryz.ntmps36
  go_wp2_with (go_at_call 33; with_reducible refine hc.mono ?_; rintro e w1 ⟨rfl, hl⟩)
  go_ret
  exact ⟨rfl, hl⟩

theorem openV_all {w : World} {ρ : Nat → Nat} {B D : Nat} {d : Dk} {k m : Nat} (h : DiskAt w ρ B D d) (hz : DSz d k m) (hk : k ≤ 900000) (hm : m ≤ 90000000) (f good : Nat) (hf : f < 2) (gg : Int) (rv : Value) (b b2 g cap : Nat)
    (cb : w.cell? ⟨b, 0, none⟩ = some (.pointer (some ⟨D, 0, none⟩))) (cr : RowV 82 b2 [.int .i64 f, .int .u64 gg, rv, .int .i64 good] w) (rb : ρ b = 0) (rb2 : ρ b2 = 0) (rg : ρ g = 0)
    (c0 : w.cell? ⟨g, 0, none⟩ = some (.func (.func 32) #[] #[.pointer (some ⟨b, 0, none⟩), .pointer (some ⟨b2, 0, none⟩)])) (c1 : w.cell? ⟨g, 1, none⟩ = some (.func (.func 34) #[] #[.pointer (some ⟨b, 0, none⟩), .pointer (some ⟨b2, 0, none⟩)]))
    (c2 : w.cell? ⟨g, 2, none⟩ = some (.func (.func 36) #[] #[.pointer (some ⟨b, 0, none⟩), .pointer (some ⟨b2, 0, none⟩)])) :
    Calls Tryz.prog 31 #[.slice (some ⟨g, 0, none⟩) 3 cap] w fun e w' => e = .returned (.int .i64 (seqD (openL f good) d).1) ∧ Left ρ B D w (seqD (openL f good) d).2 w' := by
  let J : Nat → World → Prop := fun i W => ∃ di, seqD (openL f good) d = seqD ((openL f good).drop i) di ∧ DSz di (k + i) m ∧ Left ρ B D w di W
  let E : Int → World → Prop := fun r W => (seqD (openL f good) d).1 = r ∧ Left ρ B D w (seqD (openL f good) d).2 W
  have cell : ∀ (a : Nat) (o : Nat) (v : Value), w.cell? ⟨a, o, none⟩ = some v → ρ a = 0 → ∀ i W, J i W → W.cell? ⟨a, o, none⟩ = some v := fun a o v hc hra i W ⟨di, _, _, ρ', _, m'⟩ => (World.cell?_of_block (m'.block a (block_lt_of_cell hc) (.inl hra))).trans hc
  have row : ∀ i W, J i W → RowV 82 b2 [.int .i64 f, .int .u64 gg, rv, .int .i64 good] W := fun i W ⟨di, _, _, ρ', _, m'⟩ => (m'.block b2 cr.lt (.inl rb2)).trans cr
  have step : ∀ (i : Nat) (fn : Dk → Int × Dk) (n : Nat) (args : Array Value) (W : World), i < 4 → (openL f good).drop i = fn :: (openL f good).drop (i + 1) → (∀ di, DSz di (k + i) m → DSz (fn di).2 (k + (i + 1)) m) → J i W →
      (∀ ρ' di, DiskAt W ρ' B D di → DOk di → Calls Tryz.prog n args W fun e w' => e = .returned (.int .i64 (fn di).1) ∧ Left ρ' B D W (fn di).2 w') →
      Calls Tryz.prog n args W fun e W' => ∃ r, e = .returned (.int .i64 r) ∧ (r = 0 → J (i + 1) W') ∧ (r ≠ 0 → E r W') := fun i fn n args W hi hd hf ⟨di, hs, hsz, ρ', h1, m1⟩ hc => by
    refine (hc ρ' di h1 (hsz.ok (by omega) (by omega))).mono fun e w' ⟨he, ρ'', h2, m2⟩ => ⟨_, he, fun hz0 => ?_, fun hnz => ?_⟩
    · exact ⟨(fn di).2, by rw [hs, hd, seqD_zero hz0], hf di hsz, ρ'', h2, m1.trans m2⟩
    · have e2 : seqD (openL f good) d = fn di := by rw [hs, hd, seqD_ne hnz]
      exact ⟨by rw [e2], by rw [e2]; exact ⟨ρ'', h2, m1.trans m2⟩⟩
  have cbi := cell b 0 _ cb rb
  refine (all_open g cap (.pointer (some ⟨b, 0, none⟩)) (.pointer (some ⟨b2, 0, none⟩)) w J E
    (cell g 0 _ c0 rg 0) (fun W hJ => step 0 _ _ _ W (by omega) rfl (fun di hd => hd.vcut f good) hJ fun ρ' di h1 ok => open1_c h1 ok b b2 f good gg rv (cbi 0 W hJ) (row 0 W hJ))
    (cell g 1 _ c1 rg 1) (fun W hJ => step 1 _ _ _ W (by omega) rfl (fun di hd => (hd.sync f).up (by omega) (by omega)) hJ fun ρ' di h1 ok => open2_c h1 ok b b2 f good gg rv (cbi 1 W hJ) (row 1 W hJ))
    (cell g 2 _ c2 rg 2) (fun W hJ => step 2 _ _ _ W (by omega) rfl (fun di hd => hd.vcut (1 - f) 0) hJ fun ρ' di h1 ok => open3_c h1 ok b b2 f good gg rv ⟨by omega, by omega⟩ (cbi 2 W hJ) (row 2 W hJ))
    ⟨d, rfl, hz, ρ, h, Mv.refl ρ w⟩).mono fun e w' ⟨r, he, hz0, hnz⟩ => ?_
  subst he
  by_cases hr0 : r = 0
  · obtain ⟨di, hs, -, hl⟩ := hz0 hr0
    have e2 : seqD (openL f good) d = (0, di) := hs
    rw [e2, hr0]
    exact ⟨rfl, hl⟩
  · obtain ⟨e1, hl⟩ := hnz hr0
    exact ⟨congrArg (fun z : Int => Ending.returned (.int .i64 z)) e1.symm, hl⟩
end Go.Proofs.YtfohemgfiidokaaGreatDoor
namespace Go.Proofs.YtfohemgfiidokaaGreatDoor
open Go.RowKit Go.Sort

def fdF (f : Int) : Option (Int × List (List Int)) → Int
  | none => 0
  | some _ => f
def fdG : Option (Int × List (List Int)) → Int
  | none => 0
  | some (g, _) => g
def fdZ : Option (Int × List (List Int)) → Nat
  | none => 0
  | some (_, ls) => 44 + sizeI ls
def fdL : Option (Int × List (List Int)) → List (List Int)
  | none => []
  | some (_, ls) => ls
def bF : Option (Nat × Int × List (List Int)) → Int
  | none => 0
  | some (f, _, _) => f
def bZ : Option (Nat × Int × List (List Int)) → Nat
  | none => 0
  | some (_, _, ls) => 44 + sizeI ls
def bL : Option (Nat × Int × List (List Int)) → List (List Int)
  | none => []
  | some (_, _, ls) => ls
theorem look_any (f : Int) (v : Value) (b : List Int) (w : World) (hv : RdB w v b) (hbb : Bytes b) (hl : b.length ≤ 10000000) (hk : KTab w) :
    Calls Tryz.prog 29 #[.int .i64 f, v] w fun e w' => ∃ rv, e = .returned (.agg #[.int .i64 (fdF f (lookI f b)), .int .u64 (fdG (lookI f b)), rv, .int .i64 (fdZ (lookI f b) : Nat)]) ∧ FrL w' w.heap.size rv (fdL (lookI f b)) ∧ RowKit.Below w.heap.size w w' := by
  refine (look_all f v b w hv hbb hl hk).mono fun e w' ⟨hb, h0, h1⟩ => ?_
  cases hlk : lookI f b with
  | none => exact ⟨.slice none 0 0, h0 hlk, FrL.nil _ _, hb⟩
  | some p =>
    obtain ⟨g, ls⟩ := p
    obtain ⟨rv, he, hf⟩ := h1 g ls hlk
    exact ⟨rv, by rw [he]; rfl, hf, hb⟩
theorem updI_lt {b : Option (Nat × Int × List (List Int))} {f : Nat} {l : Option (Int × List (List Int))} (h0 : 0 ≤ genO b) (h : genO b < fdG l) : bF (updI b f l) = fdF f l ∧ genO (updI b f l) = fdG l ∧ bZ (updI b f l) = fdZ l ∧ bL (updI b f l) = fdL l := by
  cases l with
  | none => simp only [fdG] at h; omega
  | some p =>
    obtain ⟨g, ls⟩ := p
    simp only [updI, if_pos (show genO b < g from h)]
    exact ⟨rfl, rfl, rfl, rfl⟩
theorem updI_ge {b : Option (Nat × Int × List (List Int))} {f : Nat} {l : Option (Int × List (List Int))} (h : ¬ genO b < fdG l) : updI b f l = b := by
  cases l with
  | none => rfl
  | some p =>
    obtain ⟨g, ls⟩ := p
    simp only [updI, if_neg (show ¬ genO b < g from h)]
theorem fdG_bd (f : Int) (b : List Int) : 0 ≤ fdG (lookI f b) ∧ fdG (lookI f b) ≤ 4611686018427387904 := by
  cases h : lookI f b with
  | none => exact ⟨Int.le_refl _, by simp [fdG]⟩
  | some p =>
    obtain ⟨g, ls⟩ := p
    obtain ⟨-, -, -, h1, h2, -⟩ := look_some h
    exact ⟨by simp only [fdG]; omega, h2⟩
theorem genO_bd (d : Dk) : ∀ k, 0 ≤ genO (bestN d k) ∧ genO (bestN d k) ≤ 4611686018427387904
  | 0 => ⟨Int.le_refl _, by simp [bestN, genO]⟩
  | k + 1 => by
    have h0 := genO_bd d k
    have h1 := fdG_bd k (d.file k).stands
    rw [bestN]
    by_cases h : genO (bestN d k) < fdG (lookI k (d.file k).stands)
    · rw [(updI_lt h0.1 h).2.1]; exact h1
    · rw [updI_ge h]; exact h0

/-- what the loop of Open has found so far -/
def BestAt (w : World) (D : Nat) (b : Option (Nat × Int × List (List Int))) (wr : World) : Prop :=
  ∃ rv, RowV 82 (w.heap.size + 1) [.int .i64 (bF b), .int .u64 (genO b), rv, .int .i64 (bZ b : Nat)] wr ∧ FrL wr (w.heap.size + 2) rv (bL b) ∧ wr.cell? ⟨w.heap.size, 0, none⟩ = some (.pointer (some ⟨D, 0, none⟩)) ∧ RowKit.Below w.heap.size w wr
theorem FrL.call {w w' : World} {B : Nat} {v : Value} {ls : List (List Int)} (h : FrL w B v ls) (hb : RowKit.Below w.heap.size w w') : FrL w' B v ls := h.keep fun g _ ⟨_, h1, _⟩ => hb.block g (Array.getElem?_eq_some_iff.1 h1).1

theorem DiskAt.drewn {w : World} {ρ : Nat → Nat} {B D : Nat} {d : Dk} (h : DiskAt w ρ B D d) : DiskAt w.drew ρ B D d := h.keep (RowKit.Below.refl _ w).drew
theorem BestAt.call {w : World} {D : Nat} {b : Option (Nat × Int × List (List Int))} {wr w' : World} (h : BestAt w D b wr) (hb : RowKit.Below wr.heap.size wr w') : BestAt w D b w' := by
  obtain ⟨rv, h1, h2, h3, h4⟩ := h
  exact ⟨rv, h1.call hb, h2.call hb, (hb.cell (p := ⟨w.heap.size, 0, none⟩) (block_lt_of_cell h3)).trans h3, h4.trans (hb.mono h4.size)⟩
theorem BestAt.store {w wr w1 w3 : World} {D : Nat} {b u : Option (Nat × Int × List (List Int))} {f1 g1 : Int} {z1 : Nat} {l1 : List (List Int)} {rv3 : Value} (h : BestAt w D b wr) (hb1 : RowKit.Below wr.heap.size wr w1) (hb3 : RowKit.Below w1.heap.size w1 w3)
    (hf : FrL w3 w1.heap.size rv3 l1) (hu : bF u = f1 ∧ genO u = g1 ∧ bZ u = z1 ∧ bL u = l1) (o : Obj) :
    BestAt w D u (((((w3.alloc o).setCell ⟨w.heap.size + 1, 0, none⟩ (.int .i64 f1)).setCell ⟨w.heap.size + 1, 1, none⟩ (.int .u64 g1)).setCell ⟨w.heap.size + 1, 2, none⟩ rv3).setCell ⟨w.heap.size + 1, 3, none⟩ (.int .i64 (z1 : Nat))) := by
  obtain ⟨rv, h1, h2, h3, h4⟩ := h
  obtain ⟨e1, e2, e3, e4⟩ := hu
  have hlt := h1.lt
  have hs1 := hb1.size
  have hbb : RowKit.Below wr.heap.size wr (w3.alloc o) := bel_alloc (bel_call hb1 hb3) o
  have hr := ((((h1.call hbb).set 0 (.int .i64 f1)).set 1 (.int .u64 g1)).set 2 rv3).set 3 (.int .i64 (z1 : Nat))
  refine ⟨rv3, by rw [e1, e2, e3]; exact hr, ?_, ?_, ?_⟩
  · rw [e4]
    refine ((hf.down (show w.heap.size + 2 ≤ w1.heap.size by omega)).call (bel_alloc (RowKit.Below.refl _ _) o)).keep fun g hg _ => ?_
    rw [set_heap (by omega), set_heap (by omega), set_heap (by omega), set_heap (by omega)]
  · have hne : w.heap.size ≠ w.heap.size + 1 := by omega
    refine (World.cell?_of_block (w := w3.alloc o) (a := ⟨w.heap.size, 0, none⟩) (((set_heap hne).trans (set_heap hne)).trans ((set_heap hne).trans (set_heap hne)))).trans ?_
    exact (hbb.cell (p := ⟨w.heap.size, 0, none⟩) (block_lt_of_cell h3)).trans h3
  · exact ((((h4.trans (hbb.mono h4.size)).setCell (p := ⟨w.heap.size + 1, 0, none⟩) (by simp) _).setCell (p := ⟨w.heap.size + 1, 1, none⟩) (by simp) _).setCell (p := ⟨w.heap.size + 1, 2, none⟩) (by simp) _).setCell (p := ⟨w.heap.size + 1, 3, none⟩) (by simp) _

/-- what Open leaves -/
def OpenPost (ρ : Nat → Nat) (B D : Nat) (w : World) (q : Int × Dk × Option (Va × List (List Int))) (e : Ending) (w' : World) : Prop :=
  match q with
  | (r, d', none) => e = .returned (.tuple #[.pointer none, .slice none 0 0, .int .i64 r]) ∧ Left ρ B D w d' w'
  | (r, d', some (x, ls)) => ∃ V rv, e = .returned (.tuple #[.pointer (some ⟨V, 0, none⟩), rv, .int .i64 r]) ∧ w.heap.size ≤ V ∧ ∃ ρ', VD w' ρ' B D V d' x ∧ Mv ρ ρ' w w' ∧ RdLS w' ρ' rv ls

set_option maxRecDepth 100000 in
theorem open_off {w : World} {ρ : Nat → Nat} {B D : Nat} {d : Dk} (h : DiskAt w ρ B D d) (hoff : d.off = true) :
    Calls Tryz.prog 11 #[.pointer (some ⟨D, 0, none⟩)] w fun e w' => OpenPost ρ B D w (8, d, none) e w' := by
  have hm : mayv d.off 0 ≠ 0 := by rw [hoff]; simp [mayv]
  have hrd := fun W (hb : RowKit.Below w.heap.size w W) => read_no (h.keep hb) 0 hm
  rw [show mayv d.off 0 = 8 by rw [hoff]; rfl] at hrd
  have HR := Lib.hid hrd
  have HH := Lib.hid h
  have hb : RowKit.Below w.heap.size w ((w.alloc (Obj.cells #[Value.pointer (some ⟨D, 0, none⟩)] 26)).alloc (Obj.cells #[Value.int IntKind.i64 0, Value.int IntKind.u64 0, Value.slice none 0 0, Value.int IntKind.i64 0] 82)) := bel_alloc (bel_alloc (RowKit.Below.refl _ _) _) _
  clear hrd h hm
  go_enter Tryz.func11, Tryz.ntmps11
  go_wp2_with fail
  refine wp_loop_rounds 1 ?_
  rw [rounds_succ]
  go_wp2_with (go_at_call 24; with_reducible refine (HR.out _ hb).mono ?_; rintro e w1 ⟨rfl, rfl⟩)
  go_ret3
  exact ⟨rfl, Left.below HH.out hb⟩

/-- a round of the loop: what it reads and finds -/
theorem best_round {w : World} {ρ : Nat → Nat} {B D : Nat} {d : Dk} {k0 m : Nat} (h : DiskAt w ρ B D d) (hz : DSz d k0 m) (hby : DBy d) (hk0 : k0 ≤ 900000) (hm : m ≤ 9000000) (ht : KTab w) (hoff : d.off = false) (k : Nat) (hk : k < 2) :
    (∀ W, RowKit.Below w.heap.size w W → Calls Tryz.prog 24 #[.pointer (some ⟨D, 0, none⟩), .int .i64 k] W fun e w' => ∃ v, e = .returned (.tuple #[v, .int .i64 0]) ∧ RdB w' v (d.file k).stands ∧ RowKit.Below W.heap.size W w') ∧
    (∀ W v, RowKit.Below w.heap.size w W → RdB W v (d.file k).stands → Calls Tryz.prog 29 #[.int .i64 k, v] W fun e w' => ∃ rv, e = .returned (.agg #[.int .i64 (fdF k (lookI k (d.file k).stands)), .int .u64 (fdG (lookI k (d.file k).stands)), rv, .int .i64 (fdZ (lookI k (d.file k).stands) : Nat)]) ∧ FrL w' W.heap.size rv (fdL (lookI k (d.file k).stands)) ∧ RowKit.Below W.heap.size W w') := by
  have ok := hz.ok (by omega) (by omega)
  refine ⟨fun W hW => (read_at (h.keep hW) k (d.file k) (h.keep hW |>.file k hk) hk (ok.file k) hoff).mono fun e w' ⟨v, he, hr, hb⟩ => ⟨v, he, hr.rd, hb⟩, fun W v hW hv => ?_⟩
  have h1 := (hz.f k).1
  have h2 := stands_len (d.file k)
  exact look_any k v _ W hv (hby.stands k) (by omega) (ht.call hW)

set_option maxRecDepth 100000 in
set_option maxHeartbeats 1600000 in
theorem open_b {w : World} {ρ : Nat → Nat} {B D : Nat} {d : Dk} {k m : Nat} (h : DiskAt w ρ B D d) (hz : DSz d k m) (hby : DBy d) (hk : k ≤ 900000) (hm : m ≤ 9000000) (ht : KTab w) (hr : ρ 0 = 0) (hoff : d.off = false) (hbest : genO (bestN d 2) = 0) :
    Calls Tryz.prog 11 #[.pointer (some ⟨D, 0, none⟩)] w fun e w' => (d.begin.1 = 0 → OpenPost ρ B D w (0, d.begin.2, some (⟨1, 1, 0, false⟩, [])) e w') ∧ (d.begin.1 ≠ 0 → OpenPost ρ B D w (d.begin.1, d.begin.2, none) e w') := by
  have HR := Lib.hid fun q hq => best_round h hz hby hk hm ht hoff q hq
  have hbg := fun W (hb : RowKit.Below w.heap.size w W) => begin_c (h.keep hb) hz (by omega) (by omega) (ht.call hb) hr
  generalize d.begin = r at *
  obtain ⟨r, d'⟩ := r
  dsimp only at hbg ⊢
  have HG := Lib.hid hbg
  have HH := Lib.hid h
  have HB2 := Lib.hid hbest
  have HGB := Lib.hid (genO_bd d)
  have HFB := Lib.hid fdG_bd
  clear h hz hby ht hr hoff hbg hbest
  go_enter Tryz.func11, Tryz.ntmps11
  go_wp2_with fail
  go_loopw [15] (fun i wr => ∃ q : Nat, q ≤ 2 ∧ i = .int .i64 q ∧ BestAt w D (bestN d q) wr) (fun i _ => 2 - (intOf i).toNat)
  case atStart =>
    have hc := heap_alloc_new (w.alloc (Obj.cells #[Value.pointer (some ⟨D, 0, none⟩)] 26)) (Obj.cells #[Value.int IntKind.i64 0, Value.int IntKind.u64 0, Value.slice none 0 0, Value.int IntKind.i64 0] 82)
    rw [World.size_alloc] at hc
    exact ⟨0, by omega, rfl, _, hc, FrL.nil _ _, by simp [go_sem], bel_alloc (bel_alloc (RowKit.Below.refl _ _) _) _⟩
  case round =>
    obtain ⟨q, hq, rfl, hbest⟩ := hrel
    have HBE := Lib.hid hbest
    obtain ⟨rv, hrow, hfr, hcd, hb⟩ := hbest
    by_cases hlt : q < 2
    · obtain ⟨h1, h2⟩ := HR.out q hlt
      have hql : (q : Int) < 2 := by omega
      have H1 := Lib.hid h1; have H2 := Lib.hid h2
      have hg0 := (HGB.out q).1
      have hdef : bestN d (q + 1) = updI (bestN d q) q (lookI q (d.file q).stands) := rfl
      generalize lookI q (d.file q).stands = l at *
      generalize bestN d q = bb at *
      have c0 := hrow.cell 0
      have c1 := hrow.cell 1
      have c2 := hrow.cell 2
      have c3 := hrow.cell 3
      have z := hrow.frozen
      simp only [List.getElem?_cons_zero, List.getElem?_cons_succ] at c0 c1 c2 c3
      have HROW := Lib.hid hrow; have HB := Lib.hid hb
      by_cases hg : genO bb < fdG l
      · have hu := updI_lt (f := q) hg0 hg
        rw [← hdef] at hu
        have HU := Lib.hid hu
        have hd : decide (genO bb < fdG l) = true := decide_eq_true hg
        generalize genO bb = g0 at *
        generalize fdG l = g1 at *
        generalize fdF q l = f1 at *
        generalize fdZ l = z1 at *
        generalize fdL l = l1 at *
        clear h1 h2 hrow hfr hb hdef hu hg
        go_wp2_with (first
          | (go_at_call 24; with_reducible refine (H1.out _ HB.out).mono ?_; rintro e w1 ⟨v1, rfl, hr1, hb1⟩; have hb2 := bel_call HB.out hb1; obtain ⟨p, cp, rfl, hcp⟩ := hr1.shape)
          | (go_at_call 29; with_reducible refine (H2.out _ _ hb2 hr1).mono ?_; rintro e w3 ⟨rv3, rfl, hf3, hb3⟩; obtain ⟨p3, c3', rfl⟩ := hf3.shape; have hrow4 := ((HROW.out.call hb1).call hb3).alloc (.cells #[.int .i64 f1, .int .u64 g1, .slice p3 l1.length c3', .int .i64 z1] 82); have y0 := hrow4.cell 0; have y1 := hrow4.cell 1; have y2 := hrow4.cell 2; have y3 := hrow4.cell 3; have zz := hrow4.frozen; simp only [List.getElem?_cons_zero, List.getElem?_cons_succ] at y0 y1 y2 y3))
        exact ⟨⟨q + 1, by omega, by go_num, HBE.out.store hb1 hb3 hf3 HU.out _⟩, by simp [intOf]; omega⟩
      · have hu := updI_ge (f := q) hg
        rw [← hdef] at hu
        have HU := Lib.hid hu
        have hd : decide (genO bb < fdG l) = false := decide_eq_false hg
        generalize genO bb = g0 at *
        generalize fdG l = g1 at *
        generalize fdF q l = f1 at *
        generalize fdZ l = z1 at *
        generalize fdL l = l1 at *
        clear h1 h2 hrow hfr hb hdef hu hg
        go_wp2_with (first
          | (go_at_call 24; with_reducible refine (H1.out _ HB.out).mono ?_; rintro e w1 ⟨v1, rfl, hr1, hb1⟩; have hb2 := bel_call HB.out hb1; obtain ⟨p, cp, rfl, hcp⟩ := hr1.shape)
          | (go_at_call 29; with_reducible refine (H2.out _ _ hb2 hr1).mono ?_; rintro e w3 ⟨rv3, rfl, hf3, hb3⟩; obtain ⟨p3, c3', rfl⟩ := hf3.shape; have hrow4 := ((HROW.out.call hb1).call hb3).alloc (.cells #[.int .i64 f1, .int .u64 g1, .slice p3 l1.length c3', .int .i64 z1] 82); have y0 := hrow4.cell 0; have y1 := hrow4.cell 1; have y2 := hrow4.cell 2; have y3 := hrow4.cell 3; have zz := hrow4.frozen; simp only [List.getElem?_cons_zero, List.getElem?_cons_succ] at y0 y1 y2 y3))
        exact ⟨⟨q + 1, by omega, by go_num, by rw [HU.out]; exact HBE.out.call (bel_alloc (bel_call hb1 hb3) _)⟩, by simp [intOf]; omega⟩
    · have hqq : q = 2 := by omega
      subst hqq
      have c1 := hrow.cell 1
      simp only [List.getElem?_cons_zero, List.getElem?_cons_succ] at c1
      rw [HB2.out] at c1
      have hkb := HG.out wr hb
      have HB := Lib.hid hb
      have HH2 := Lib.hid (HH.out.keep hb)
      clear hrow hfr hb
      by_cases h0 : r = 0
      · subst h0
        have hkb' : Calls Tryz.prog 30 #[.pointer (some ⟨D, 0, none⟩)] wr fun e w' => ∃ V, e = .returned (.tuple #[.pointer (some ⟨V, 0, none⟩), .int .i64 0]) ∧ VLeft ρ B D wr d' ⟨1, 1, 0, false⟩ V w' := hkb.mono fun e w' h => h.1 rfl
        go_wp2_with (go_at_call 30; with_reducible refine hkb'.mono ?_; rintro e w1 ⟨V, rfl, hvl⟩)
        go_ret3
        obtain ⟨ρ', h1, h2, h3, h4, h5⟩ := hvl
        have hm2 := (Mv.ofBelow ρ HB.out).trans h2
        exact ⟨V, .slice none 0 0, rfl, Nat.le_trans HB.out.size h5, ρ', ⟨h1, h3, h4⟩, hm2, .inl ⟨rfl, rfl⟩⟩
      · have hq : (r == 0) = false := by rw [beq_eq_false_iff_ne]; exact h0
        have H0 := Lib.hid h0
        have hkb' : Calls Tryz.prog 30 #[.pointer (some ⟨D, 0, none⟩)] wr fun e w' => e = .returned (.tuple #[.pointer none, .int .i64 r]) ∧ Left ρ B D wr d' w' := hkb.mono fun e w' h => h.2 h0
        clear h0
        go_wp2_with (go_at_call 30; with_reducible refine hkb'.mono ?_; rintro e w1 ⟨rfl, hvl⟩)
        go_ret3
        exact ⟨fun e => absurd e H0.out, fun _ => ⟨rfl, Left.after HB.out hvl⟩⟩

set_option maxRecDepth 100000 in
set_option maxHeartbeats 1600000 in
theorem open_s {w : World} {ρ : Nat → Nat} {B D : Nat} {d : Dk} {k m : Nat} (h : DiskAt w ρ B D d) (hz : DSz d k m) (hby : DBy d) (hk : k ≤ 900000) (hm : m ≤ 9000000) (ht : KTab w) (hoff : d.off = false) (f : Nat) (gg : Int) (ls : List (List Int)) (hbest : bestN d 2 = some (f, gg, ls)) :
    Calls Tryz.prog 11 #[.pointer (some ⟨D, 0, none⟩)] w fun e w' => ((seqD (openL f (44 + sizeI ls)) d).1 = 0 → OpenPost ρ B D w (0, (seqD (openL f (44 + sizeI ls)) d).2, some (⟨f, gg, ls.length, false⟩, ls)) e w') ∧ ((seqD (openL f (44 + sizeI ls)) d).1 ≠ 0 → OpenPost ρ B D w ((seqD (openL f (44 + sizeI ls)) d).1, (seqD (openL f (44 + sizeI ls)) d).2, none) e w') := by
  have HR := Lib.hid fun q hq => best_round h hz hby hk hm ht hoff q hq
  obtain ⟨hf2, hlk⟩ := best_mem d 2 f gg ls hbest
  obtain ⟨-, -, -, hg1, hg2, -⟩ := look_some hlk
  have hls := look_size (hby.stands f) hlk
  have hlen : ls.length ≤ 10000000 := by
    have h1 := (hz.f f).1
    have h2 := stands_len (d.file f)
    have h3 := len_le_size ls
    omega
  have hbg := fun W rv (hb : RowKit.Below w.heap.size w W) (cb : W.cell? ⟨w.heap.size, 0, none⟩ = some (.pointer (some ⟨D, 0, none⟩))) (cr : RowV 82 (w.heap.size + 1) [.int .i64 f, .int .u64 gg, rv, .int .i64 ((44 + sizeI ls : Nat) : Int)] W) =>
    have hbW : RowKit.Below W.heap.size W (W.alloc (.cells #[.func (.func 32) #[] #[.pointer (some ⟨w.heap.size, 0, none⟩), .pointer (some ⟨w.heap.size + 1, 0, none⟩)], .func (.func 34) #[] #[.pointer (some ⟨w.heap.size, 0, none⟩), .pointer (some ⟨w.heap.size + 1, 0, none⟩)], .func (.func 36) #[] #[.pointer (some ⟨w.heap.size, 0, none⟩), .pointer (some ⟨w.heap.size + 1, 0, none⟩)]] 54)) := bel_alloc (RowKit.Below.refl _ _) _
    have cg : ∀ j, (W.alloc (.cells #[.func (.func 32) #[] #[.pointer (some ⟨w.heap.size, 0, none⟩), .pointer (some ⟨w.heap.size + 1, 0, none⟩)], .func (.func 34) #[] #[.pointer (some ⟨w.heap.size, 0, none⟩), .pointer (some ⟨w.heap.size + 1, 0, none⟩)], .func (.func 36) #[] #[.pointer (some ⟨w.heap.size, 0, none⟩), .pointer (some ⟨w.heap.size + 1, 0, none⟩)]] 54)).cell? ⟨W.heap.size, j, none⟩ = (#[.func (.func 32) #[] #[.pointer (some ⟨w.heap.size, 0, none⟩), .pointer (some ⟨w.heap.size + 1, 0, none⟩)], .func (.func 34) #[] #[.pointer (some ⟨w.heap.size, 0, none⟩), .pointer (some ⟨w.heap.size + 1, 0, none⟩)], .func (.func 36) #[] #[.pointer (some ⟨w.heap.size, 0, none⟩), .pointer (some ⟨w.heap.size + 1, 0, none⟩)]] : Array Value)[j]? := fun j => cell_of_row _ _ _ _ _ _ (heap_alloc_new _ _)
    openV_all (h.keep (bel_alloc hb (.cells #[.func (.func 32) #[] #[.pointer (some ⟨w.heap.size, 0, none⟩), .pointer (some ⟨w.heap.size + 1, 0, none⟩)], .func (.func 34) #[] #[.pointer (some ⟨w.heap.size, 0, none⟩), .pointer (some ⟨w.heap.size + 1, 0, none⟩)], .func (.func 36) #[] #[.pointer (some ⟨w.heap.size, 0, none⟩), .pointer (some ⟨w.heap.size + 1, 0, none⟩)]] 54))) hz (by omega) (by omega) f (44 + sizeI ls) hf2 gg rv w.heap.size (w.heap.size + 1) W.heap.size 3
      ((hbW.cell (p := ⟨w.heap.size, 0, none⟩) (block_lt_of_cell cb)).trans cb) (cr.call hbW) (h.fresh _ (Nat.le_refl _)) (h.fresh _ (by omega)) (h.fresh _ hb.size) (cg 0) (cg 1) (cg 2)
  have hfresh := h.fresh
  generalize seqD (openL f (44 + sizeI ls)) d = r at *
  obtain ⟨r, d'⟩ := r
  dsimp only at hbg ⊢
  have HG := Lib.hid hbg
  have HH := Lib.hid h
  have HB2 := Lib.hid hbest
  have HGB := Lib.hid (genO_bd d)
  have HFB := Lib.hid fdG_bd
  have HFR := Lib.hid hfresh
  have hmf : ∀ (fn : Fn) (first cap : Array Value) (w : World), (Instr.makeFunc fn first cap).run Tryz.prog w = .ok (.func fn first cap) w := fun _ _ _ _ => rfl
  clear h hz hby ht hoff hbg hbest hlk hls hfresh
  go_enter Tryz.func11, Tryz.ntmps11
  go_wp2_with fail
  go_loopw [15] (fun i wr => ∃ q : Nat, q ≤ 2 ∧ i = .int .i64 q ∧ BestAt w D (bestN d q) wr) (fun i _ => 2 - (intOf i).toNat)
  case atStart =>
    have hc := heap_alloc_new (w.alloc (Obj.cells #[Value.pointer (some ⟨D, 0, none⟩)] 26)) (Obj.cells #[Value.int IntKind.i64 0, Value.int IntKind.u64 0, Value.slice none 0 0, Value.int IntKind.i64 0] 82)
    rw [World.size_alloc] at hc
    exact ⟨0, by omega, rfl, _, hc, FrL.nil _ _, by simp [go_sem], bel_alloc (bel_alloc (RowKit.Below.refl _ _) _) _⟩
  case round =>
    obtain ⟨q, hq, rfl, hbest⟩ := hrel
    have HBE := Lib.hid hbest
    obtain ⟨rv, hrow, hfr, hcd, hb⟩ := hbest
    by_cases hlt : q < 2
    · obtain ⟨h1, h2⟩ := HR.out q hlt
      have hql : (q : Int) < 2 := by omega
      have H1 := Lib.hid h1; have H2 := Lib.hid h2
      have hg0 := (HGB.out q).1
      have hdef : bestN d (q + 1) = updI (bestN d q) q (lookI q (d.file q).stands) := rfl
      generalize lookI q (d.file q).stands = l at *
      generalize bestN d q = bb at *
      have c0 := hrow.cell 0
      have c1 := hrow.cell 1
      have c2 := hrow.cell 2
      have c3 := hrow.cell 3
      have z := hrow.frozen
      simp only [List.getElem?_cons_zero, List.getElem?_cons_succ] at c0 c1 c2 c3
      have HROW := Lib.hid hrow; have HB := Lib.hid hb
      by_cases hg : genO bb < fdG l
      · have hu := updI_lt (f := q) hg0 hg
        rw [← hdef] at hu
        have HU := Lib.hid hu
        have hd : decide (genO bb < fdG l) = true := decide_eq_true hg
        generalize genO bb = g0 at *
        generalize fdG l = g1 at *
        generalize fdF q l = f1 at *
        generalize fdZ l = z1 at *
        generalize fdL l = l1 at *
        clear h1 h2 hrow hfr hb hdef hu hg
        go_wp2_with (first
          | (go_at_call 24; with_reducible refine (H1.out _ HB.out).mono ?_; rintro e w1 ⟨v1, rfl, hr1, hb1⟩; have hb2 := bel_call HB.out hb1; obtain ⟨p, cp, rfl, hcp⟩ := hr1.shape)
          | (go_at_call 29; with_reducible refine (H2.out _ _ hb2 hr1).mono ?_; rintro e w3 ⟨rv3, rfl, hf3, hb3⟩; obtain ⟨p3, c3', rfl⟩ := hf3.shape; have hrow4 := ((HROW.out.call hb1).call hb3).alloc (.cells #[.int .i64 f1, .int .u64 g1, .slice p3 l1.length c3', .int .i64 z1] 82); have y0 := hrow4.cell 0; have y1 := hrow4.cell 1; have y2 := hrow4.cell 2; have y3 := hrow4.cell 3; have zz := hrow4.frozen; simp only [List.getElem?_cons_zero, List.getElem?_cons_succ] at y0 y1 y2 y3))
        exact ⟨⟨q + 1, by omega, by go_num, HBE.out.store hb1 hb3 hf3 HU.out _⟩, by simp [intOf]; omega⟩
      · have hu := updI_ge (f := q) hg
        rw [← hdef] at hu
        have HU := Lib.hid hu
        have hd : decide (genO bb < fdG l) = false := decide_eq_false hg
        generalize genO bb = g0 at *
        generalize fdG l = g1 at *
        generalize fdF q l = f1 at *
        generalize fdZ l = z1 at *
        generalize fdL l = l1 at *
        clear h1 h2 hrow hfr hb hdef hu hg
        go_wp2_with (first
          | (go_at_call 24; with_reducible refine (H1.out _ HB.out).mono ?_; rintro e w1 ⟨v1, rfl, hr1, hb1⟩; have hb2 := bel_call HB.out hb1; obtain ⟨p, cp, rfl, hcp⟩ := hr1.shape)
          | (go_at_call 29; with_reducible refine (H2.out _ _ hb2 hr1).mono ?_; rintro e w3 ⟨rv3, rfl, hf3, hb3⟩; obtain ⟨p3, c3', rfl⟩ := hf3.shape; have hrow4 := ((HROW.out.call hb1).call hb3).alloc (.cells #[.int .i64 f1, .int .u64 g1, .slice p3 l1.length c3', .int .i64 z1] 82); have y0 := hrow4.cell 0; have y1 := hrow4.cell 1; have y2 := hrow4.cell 2; have y3 := hrow4.cell 3; have zz := hrow4.frozen; simp only [List.getElem?_cons_zero, List.getElem?_cons_succ] at y0 y1 y2 y3))
        exact ⟨⟨q + 1, by omega, by go_num, by rw [HU.out]; exact HBE.out.call (bel_alloc (bel_call hb1 hb3) _)⟩, by simp [intOf]; omega⟩
    · have hqq : q = 2 := by omega
      subst hqq
      rw [HB2.out] at hrow hfr
      simp only [bF, genO, bZ, bL] at hrow hfr
      have c1 := hrow.cell 1
      simp only [List.getElem?_cons_zero, List.getElem?_cons_succ] at c1
      have hq1 : (gg == 0) = false := by rw [beq_eq_false_iff_ne]; omega
      have hkb := HG.out wr rv hb hcd hrow
      have HB := Lib.hid hb
      have HROW := Lib.hid hrow
      have HF := Lib.hid hfr
      obtain ⟨p3, c3', rfl⟩ := hfr.shape
      clear hrow hfr hb
      by_cases h0 : r = 0
      · subst h0
        go_upto_region 20 with (go_at_call 31; with_reducible refine hkb.mono ?_; rintro e w1 ⟨rfl, hl⟩)
        obtain ⟨ρ', h1, m1⟩ := hl
        have hs := HB.out.size
        have m0 := (Mv.ofBelow ρ (bel_alloc HB.out (.cells #[.func (.func 32) #[] #[.pointer (some ⟨w.heap.size, 0, none⟩), .pointer (some ⟨w.heap.size + 1, 0, none⟩)], .func (.func 34) #[] #[.pointer (some ⟨w.heap.size, 0, none⟩), .pointer (some ⟨w.heap.size + 1, 0, none⟩)], .func (.func 36) #[] #[.pointer (some ⟨w.heap.size, 0, none⟩), .pointer (some ⟨w.heap.size + 1, 0, none⟩)]] 54)))
        have hlt := HROW.out.lt
        have hbW : RowKit.Below wr.heap.size wr (wr.alloc (.cells #[.func (.func 32) #[] #[.pointer (some ⟨w.heap.size, 0, none⟩), .pointer (some ⟨w.heap.size + 1, 0, none⟩)], .func (.func 34) #[] #[.pointer (some ⟨w.heap.size, 0, none⟩), .pointer (some ⟨w.heap.size + 1, 0, none⟩)], .func (.func 36) #[] #[.pointer (some ⟨w.heap.size, 0, none⟩), .pointer (some ⟨w.heap.size + 1, 0, none⟩)]] 54)) := bel_alloc (RowKit.Below.refl _ _) _
        have hrow1 : RowV 82 (w.heap.size + 1) [.int .i64 f, .int .u64 gg, .slice p3 ls.length c3', .int .i64 ((44 + sizeI ls : Nat) : Int)] w1 := (m1.block _ (by simp; omega) (.inl (HFR.out _ (by omega)))).trans (HROW.out.call hbW)
        have cb1 : w1.cell? ⟨w.heap.size, 0, none⟩ = some (.pointer (some ⟨D, 0, none⟩)) := (World.cell?_of_block (a := ⟨w.heap.size, 0, none⟩) (m1.block _ (by simp; omega) (.inl (HFR.out _ (Nat.le_refl _))))).trans ((hbW.cell (p := ⟨w.heap.size, 0, none⟩) (block_lt_of_cell hcd)).trans hcd)
        have x0 := hrow1.cell 0
        have x1 := hrow1.cell 1
        have x2 := hrow1.cell 2
        simp only [List.getElem?_cons_zero, List.getElem?_cons_succ] at x0 x1 x2
        have hrl : RdLS w1 ρ' (.slice p3 ls.length c3') ls := RdLS.mvv (V := 0) ((HF.out.call hbW).rdls fun g hg => HFR.out g (by omega)) (m1.v 0)
        clear hrow1
        have dd : w1.drew.cell? ⟨w.heap.size, 0, none⟩ = some (.pointer (some ⟨D, 0, none⟩)) := cb1
        have d0 : w1.drew.cell? ⟨w.heap.size + 1, 0, none⟩ = some (.int .i64 f) := x0
        have d1 : w1.drew.cell? ⟨w.heap.size + 1, 1, none⟩ = some (.int .u64 gg) := x1
        have d2 : w1.drew.cell? ⟨w.heap.size + 1, 2, none⟩ = some (.slice p3 ls.length c3') := x2
        go_region_held3 (fun V => V.cell? ⟨w.heap.size, 0, none⟩ = some (.pointer (some ⟨D, 0, none⟩)) ∧ V.cell? ⟨w.heap.size + 1, 0, none⟩ = some (.int .i64 f) ∧ V.cell? ⟨w.heap.size + 1, 1, none⟩ = some (.int .u64 gg) ∧ V.cell? ⟨w.heap.size + 1, 2, none⟩ = some (.slice p3 ls.length c3')) (go_keep) (fail)
        go_wp2
        go_ret3
        obtain ⟨h2, m2⟩ := h1.box (.cells #[.pointer (some ⟨D, 0, none⟩), .int .i64 f, .int .u64 gg, .int .i64 ls.length, .bool false] 89)
        have hc := heap_alloc_new w1 (.cells #[.pointer (some ⟨D, 0, none⟩), .int .i64 f, .int .u64 gg, .int .i64 ls.length, .bool false] 89)
        refine ⟨w1.heap.size, _, rfl, Nat.le_trans hs (Nat.le_trans hbW.size m1.size), _, ⟨h2.drewn, ⟨cell_of_row _ _ _ _ _ _ hc, cell_of_row _ _ _ _ _ _ hc, cell_of_row _ _ _ _ _ _ hc, cell_of_row _ _ _ _ _ _ hc, cell_of_row _ _ _ _ _ _ hc, fun o => ?_⟩, if_pos rfl⟩, ((m0.trans m1).trans m2).trans (Mv.drew _ _), ?_⟩
        · show World.frozen? (w1.alloc _) _ = false
          unfold World.frozen?
          rw [hc]
          simp
        · exact RdLS.mvv (V := 0) hrl ((m2.trans (Mv.drew _ _)).v 0)
      · have hq : (r == 0) = false := by rw [beq_eq_false_iff_ne]; exact h0
        have H0 := Lib.hid h0
        clear h0
        go_wp2_with (go_at_call 31; with_reducible refine hkb.mono ?_; rintro e w1 ⟨rfl, hl⟩)
        go_ret3
        exact ⟨fun e => absurd e H0.out, fun _ => ⟨rfl, Left.after (bel_alloc HB.out _) hl⟩⟩

theorem open_all {w : World} {ρ : Nat → Nat} {B D : Nat} {d : Dk} {k m : Nat} (h : DiskAt w ρ B D d) (hz : DSz d k m) (hby : DBy d) (hk : k ≤ 900000) (hm : m ≤ 9000000) (ht : KTab w) (hr : ρ 0 = 0) :
    Calls Tryz.prog 11 #[.pointer (some ⟨D, 0, none⟩)] w fun e w' => OpenPost ρ B D w d.openV e w' := by
  unfold Dk.openV
  by_cases hoff : d.off = true
  · rw [if_pos hoff]; exact open_off h hoff
  · rw [if_neg hoff]
    have hoff' : d.off = false := by simpa using hoff
    cases hb : bestN d 2 with
    | none =>
      have hc := open_b h hz hby hk hm ht hr hoff' (by rw [hb]; rfl)
      dsimp only
      split
      · exact hc.mono fun e w' h => h.1 (by assumption)
      · exact hc.mono fun e w' h => h.2 (by assumption)
    | some p =>
      obtain ⟨f, gg, ls⟩ := p
      have hc := open_s h hz hby hk hm ht hoff' f gg ls hb
      dsimp only
      split
      · exact hc.mono fun e w' h => h.1 (by assumption)
      · exact hc.mono fun e w' h => h.2 (by assumption)
end Go.Proofs.YtfohemgfiidokaaGreatDoor
