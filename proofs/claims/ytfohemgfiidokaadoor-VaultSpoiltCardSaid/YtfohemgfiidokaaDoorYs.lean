/- vault's Compact: its closures. -/
import Derived.Test.YtfohemgfiidokaaDoorYr
namespace Go.Proofs.YtfohemgfiidokaaDoor
open Go.RowKit Go.Sort

set_option maxRecDepth 100000 in
theorem comp1_c {w : World} {ρ : Nat → Nat} {B D V : Nat} {d : Dk} {x : Va} (h : VD w ρ B D V d x) (ok : DOk d) (b b2 : Nat) (o : Int) (rb : ρ b = 0) (rb2 : ρ b2 = 0) (cb : w.cell? ⟨b, 0, none⟩ = some (.pointer (some ⟨V, 0, none⟩))) (c2 : w.cell? ⟨b2, 0, none⟩ = some (.int .i64 o)) :
    Calls Tryd.prog 42 #[.pointer (some ⟨b, 0, none⟩), .pointer (some ⟨b2, 0, none⟩)] w fun e w' => e = .returned (.int .i64 (d.vcut o 0).1) ∧ Left ρ B D w (d.vcut o 0).2 w' := by
  have hbd := (RowKit.Below.refl w.heap.size w).drew
  have hc := vcut_c (h.disk.keep hbd) ok o 0
  have hV4 : 3 < ρ V := by rw [h.role]; omega
  have e1 := h.va.d
  have cbd : w.drew.cell? ⟨b, 0, none⟩ = some (.pointer (some ⟨V, 0, none⟩)) := cb
  have e1d : w.drew.cell? ⟨V, 0, none⟩ = some (.pointer (some ⟨D, 0, none⟩)) := e1
  have c2d : w.drew.cell? ⟨b2, 0, none⟩ = some (.int .i64 o) := c2
  generalize d.vcut o 0 = r at *
  go_enter Tryd.func42, Tryd.ntmps42
  go_upto_region 1 with fail
  go_region_held3 (fun V' => V'.cell? ⟨b, 0, none⟩ = some (.pointer (some ⟨V, 0, none⟩)) ∧ V'.cell? ⟨V, 0, none⟩ = some (.pointer (some ⟨D, 0, none⟩)) ∧ V'.cell? ⟨b2, 0, none⟩ = some (.int .i64 o)) (go_keep) (first | (go_at_call 31; (with_reducible refine hc.mono ?_); rintro e w1 ⟨rfl, hl⟩; have q1 := hl.cell cbd (.inl rb); have q2 := hl.cell e1d (.inr hV4); have q4 := hl.cell c2d (.inl rb2)))
  all_goals go_wp2
  all_goals go_ret
  all_goals exact ⟨rfl, Left.after hbd hl⟩
set_option maxRecDepth 100000 in
theorem comp2_c {w : World} {ρ : Nat → Nat} {B D V : Nat} {d : Dk} {x : Va} (h : VD w ρ B D V d x) (ok : DOk d) (b b2 b3 : Nat) (o : Int) (v : Value) (s : List Int) (rb : ρ b = 0) (rb2 : ρ b2 = 0) (rb3 : ρ b3 = 0) (cb : w.cell? ⟨b, 0, none⟩ = some (.pointer (some ⟨V, 0, none⟩))) (c2 : w.cell? ⟨b2, 0, none⟩ = some (.int .i64 o)) (c3 : w.cell? ⟨b3, 0, none⟩ = some v) (hv : RdS w ρ v s) (hs : s.length ≤ 100000000) :
    Calls Tryd.prog 43 #[.pointer (some ⟨b, 0, none⟩), .pointer (some ⟨b2, 0, none⟩), .pointer (some ⟨b3, 0, none⟩)] w fun e w' => e = .returned (.int .i64 (d.write o s).1) ∧ Left ρ B D w (d.write o s).2 w' := by
  have hbd := (RowKit.Below.refl w.heap.size w).drew
  have hc := write_any (h.disk.keep hbd) ok o v s (hv.mv (Mv.drew ρ w)) (by omega)
  obtain ⟨p, cp, rfl⟩ := hv.shape
  have hV4 : 3 < ρ V := by rw [h.role]; omega
  have e1 := h.va.d
  have cbd : w.drew.cell? ⟨b, 0, none⟩ = some (.pointer (some ⟨V, 0, none⟩)) := cb
  have e1d : w.drew.cell? ⟨V, 0, none⟩ = some (.pointer (some ⟨D, 0, none⟩)) := e1
  have c2d : w.drew.cell? ⟨b2, 0, none⟩ = some (.int .i64 o) := c2
  have c3d : w.drew.cell? ⟨b3, 0, none⟩ = some (.slice p s.length cp) := c3
  generalize d.write o s = r at *
  go_enter Tryd.func43, Tryd.ntmps43
  go_upto_region 1 with fail
  go_region_held3 (fun V' => V'.cell? ⟨b, 0, none⟩ = some (.pointer (some ⟨V, 0, none⟩)) ∧ V'.cell? ⟨V, 0, none⟩ = some (.pointer (some ⟨D, 0, none⟩)) ∧ V'.cell? ⟨b2, 0, none⟩ = some (.int .i64 o) ∧ V'.cell? ⟨b3, 0, none⟩ = some (.slice p s.length cp)) (go_keep) (first | (go_at_call 22; (with_reducible refine hc.mono ?_); rintro e w1 ⟨rfl, hl⟩; have q1 := hl.cell cbd (.inl rb); have q2 := hl.cell e1d (.inr hV4); have q4 := hl.cell c2d (.inl rb2); have q5 := hl.cell c3d (.inl rb3)))
  all_goals go_wp2
  all_goals go_ret
  all_goals exact ⟨rfl, Left.after hbd hl⟩
set_option maxRecDepth 100000 in
theorem comp3_c {w : World} {ρ : Nat → Nat} {B D V : Nat} {d : Dk} {x : Va} (h : VD w ρ B D V d x) (ok : DOk d) (b b2 : Nat) (o : Int) (rb : ρ b = 0) (rb2 : ρ b2 = 0) (cb : w.cell? ⟨b, 0, none⟩ = some (.pointer (some ⟨V, 0, none⟩))) (c2 : w.cell? ⟨b2, 0, none⟩ = some (.int .i64 o)) :
    Calls Tryd.prog 44 #[.pointer (some ⟨b, 0, none⟩), .pointer (some ⟨b2, 0, none⟩)] w fun e w' => e = .returned (.int .i64 (d.sync o).1) ∧ Left ρ B D w (d.sync o).2 w' := by
  have hbd := (RowKit.Below.refl w.heap.size w).drew
  have hc := sync_any (h.disk.keep hbd) ok o
  have hV4 : 3 < ρ V := by rw [h.role]; omega
  have e1 := h.va.d
  have cbd : w.drew.cell? ⟨b, 0, none⟩ = some (.pointer (some ⟨V, 0, none⟩)) := cb
  have e1d : w.drew.cell? ⟨V, 0, none⟩ = some (.pointer (some ⟨D, 0, none⟩)) := e1
  have c2d : w.drew.cell? ⟨b2, 0, none⟩ = some (.int .i64 o) := c2
  generalize d.sync o = r at *
  go_enter Tryd.func44, Tryd.ntmps44
  go_upto_region 1 with fail
  go_region_held3 (fun V' => V'.cell? ⟨b, 0, none⟩ = some (.pointer (some ⟨V, 0, none⟩)) ∧ V'.cell? ⟨V, 0, none⟩ = some (.pointer (some ⟨D, 0, none⟩)) ∧ V'.cell? ⟨b2, 0, none⟩ = some (.int .i64 o)) (go_keep) (first | (go_at_call 33; (with_reducible refine hc.mono ?_); rintro e w1 ⟨rfl, hl⟩; have q1 := hl.cell cbd (.inl rb); have q2 := hl.cell e1d (.inr hV4); have q4 := hl.cell c2d (.inl rb2)))
  all_goals go_wp2
  all_goals go_ret
  all_goals exact ⟨rfl, Left.after hbd hl⟩
set_option maxRecDepth 100000 in
theorem comp4_c {w : World} {ρ : Nat → Nat} {B D V : Nat} {d : Dk} {x : Va} (h : VD w ρ B D V d x) (ok : DOk d) (b : Nat) (rb : ρ b = 0) (cb : w.cell? ⟨b, 0, none⟩ = some (.pointer (some ⟨V, 0, none⟩))) :
    Calls Tryd.prog 45 #[.pointer (some ⟨b, 0, none⟩)] w fun e w' => e = .returned (.int .i64 (d.cut x.file 0).1) ∧ Left ρ B D w (d.cut x.file 0).2 w' := by
  have hbd := (RowKit.Below.refl w.heap.size w).drew
  have hc := cut_any (h.disk.keep hbd) ok x.file 0
  have hV4 : 3 < ρ V := by rw [h.role]; omega
  have e1 := h.va.d
  have e2 := h.va.file
  have cbd : w.drew.cell? ⟨b, 0, none⟩ = some (.pointer (some ⟨V, 0, none⟩)) := cb
  have e1d : w.drew.cell? ⟨V, 0, none⟩ = some (.pointer (some ⟨D, 0, none⟩)) := e1
  have e2d : w.drew.cell? ⟨V, 1, none⟩ = some (.int .i64 x.file) := e2
  generalize d.cut x.file 0 = r at *
  go_enter Tryd.func45, Tryd.ntmps45
  go_upto_region 1 with fail
  go_region_held3 (fun V' => V'.cell? ⟨b, 0, none⟩ = some (.pointer (some ⟨V, 0, none⟩)) ∧ V'.cell? ⟨V, 0, none⟩ = some (.pointer (some ⟨D, 0, none⟩)) ∧ V'.cell? ⟨V, 1, none⟩ = some (.int .i64 x.file)) (go_keep) (first | (go_at_call 21; (with_reducible refine hc.mono ?_); rintro e w1 ⟨rfl, hl⟩; have q1 := hl.cell cbd (.inl rb); have q2 := hl.cell e1d (.inr hV4); have q4 := hl.cell e2d (.inr hV4)))
  all_goals go_wp2
  all_goals go_ret
  all_goals exact ⟨rfl, Left.after hbd hl⟩
set_option maxRecDepth 100000 in
set_option maxHeartbeats 3200000 in
theorem comp5_c {w : World} {D V : Nat} {x : Va} (h : VaAt w V D x) (b b2 b3 : Nat) (o : Int) (p : Option Addr) (n cap : Nat) (cb : w.cell? ⟨b, 0, none⟩ = some (.pointer (some ⟨V, 0, none⟩))) (c2 : w.cell? ⟨b2, 0, none⟩ = some (.int .i64 o)) (c3 : w.cell? ⟨b3, 0, none⟩ = some (.slice p n cap)) (hg : 0 ≤ x.gen ∧ x.gen ≤ 4611686018427387904) :
    Calls Tryd.prog 46 #[.pointer (some ⟨b2, 0, none⟩), .pointer (some ⟨b, 0, none⟩), .pointer (some ⟨b3, 0, none⟩)] w fun e w' => e = .returned (.int .i64 0) ∧ w' = (((w.setCell ⟨V, 1, none⟩ (.int .i64 o)).setCell ⟨V, 2, none⟩ (.int .u64 (x.gen + 1))).setCell ⟨V, 3, none⟩ (.int .i64 n)).drew := by
  have e1 := h.file
  have e2 := h.gen
  have e3 := h.n
  have z := h.fz
  have hw : IntKind.u64.wrap (x.gen + 1) = x.gen + 1 := by rw [IntKind.wrap_u64]; omega
  go_enter Tryd.func46, Tryd.ntmps46
  go_upto_region 1 with fail
  go_region
  all_goals go_wp2
  all_goals go_ret
  all_goals exact ⟨rfl, rfl⟩

theorem compS_len (x : Va) (ls : List (List Int)) : (compS x ls).length = 44 + sizeI ls := by rw [compS, List.length_append, headI_len, framesI_len]

theorem compV_all {w : World} {ρ : Nat → Nat} {B D V : Nat} {d : Dk} {x : Va} {k m : Nat} (h : VD w ρ B D V d x) (hz : DSz d k m) (hk : k ≤ 900000) (hm : m ≤ 9000000) (hf : x.file < 2) (ls : List (List Int)) (hsz : sizeI ls ≤ 10000000) (hg : 0 ≤ x.gen ∧ x.gen ≤ 4611686018427387904) (b b2 b3 b4 g cap : Nat) (sv : Value) (p : Option Addr) (lc : Nat)
    (cb : w.cell? ⟨b, 0, none⟩ = some (.pointer (some ⟨V, 0, none⟩))) (c2 : w.cell? ⟨b2, 0, none⟩ = some (.int .i64 (1 - x.file))) (c3 : w.cell? ⟨b3, 0, none⟩ = some sv) (hsv : RdS w ρ sv (compS x ls)) (c4 : w.cell? ⟨b4, 0, none⟩ = some (.slice p ls.length lc)) (rb : ρ b = 0) (rb2 : ρ b2 = 0) (rb3 : ρ b3 = 0) (rb4 : ρ b4 = 0) (rg : ρ g = 0)
    (f0 : w.cell? ⟨g, 0, none⟩ = some (.func (.func 42) #[] #[.pointer (some ⟨b, 0, none⟩), .pointer (some ⟨b2, 0, none⟩)])) (f1 : w.cell? ⟨g, 1, none⟩ = some (.func (.func 43) #[] #[.pointer (some ⟨b, 0, none⟩), .pointer (some ⟨b2, 0, none⟩), .pointer (some ⟨b3, 0, none⟩)]))
    (f2 : w.cell? ⟨g, 2, none⟩ = some (.func (.func 44) #[] #[.pointer (some ⟨b, 0, none⟩), .pointer (some ⟨b2, 0, none⟩)])) (f3 : w.cell? ⟨g, 3, none⟩ = some (.func (.func 45) #[] #[.pointer (some ⟨b, 0, none⟩)]))
    (f4 : w.cell? ⟨g, 4, none⟩ = some (.func (.func 46) #[] #[.pointer (some ⟨b2, 0, none⟩), .pointer (some ⟨b, 0, none⟩), .pointer (some ⟨b4, 0, none⟩)])) :
    Calls Tryd.prog 29 #[.slice (some ⟨g, 0, none⟩) 5 cap] w fun e w' => e = .returned (.int .i64 (seqD (compL x ls) d).1) ∧ ((seqD (compL x ls) d).1 = 0 → VLeft2 ρ B D V w (seqD (compL x ls) d).2 ⟨1 - x.file, x.gen + 1, ls.length, x.broken⟩ w') ∧ ((seqD (compL x ls) d).1 ≠ 0 → VLeft2 ρ B D V w (seqD (compL x ls) d).2 x w') := by
  have hll := len_le_size ls
  have hfl := compS_len x ls
  let J : Nat → World → Prop := fun i W => if i < 5 then ∃ di, seqD (compL x ls) d = seqD ((compL x ls).drop i) di ∧ DSz di (k + i) (m + (44 + sizeI ls) * i) ∧ Left ρ B D w di W else (seqD (compL x ls) d).1 = 0 ∧ VLeft2 ρ B D V w (seqD (compL x ls) d).2 ⟨1 - x.file, x.gen + 1, ls.length, x.broken⟩ W
  let E : Int → World → Prop := fun r W => (seqD (compL x ls) d).1 = r ∧ VLeft2 ρ B D V w (seqD (compL x ls) d).2 x W
  have jd : ∀ i W, i < 5 → J i W → ∃ di, seqD (compL x ls) d = seqD ((compL x ls).drop i) di ∧ DSz di (k + i) (m + (44 + sizeI ls) * i) ∧ Left ρ B D w di W := fun i W hi hJ => by simpa only [J, if_pos hi] using hJ
  have cell : ∀ (a : Nat) (o : Nat) (v : Value), w.cell? ⟨a, o, none⟩ = some v → ρ a = 0 → ∀ i W, i < 5 → J i W → W.cell? ⟨a, o, none⟩ = some v := fun a o v hc hra i W hi hJ => by
    obtain ⟨di, -, -, hl⟩ := jd i W hi hJ
    exact hl.cell hc (.inl hra)
  have step : ∀ (i : Nat) (fn : Dk → Int × Dk) (n : Nat) (args : Array Value) (W : World), i < 4 → (compL x ls).drop i = fn :: (compL x ls).drop (i + 1) → (∀ di, DSz di (k + i) (m + (44 + sizeI ls) * i) → DSz (fn di).2 (k + (i + 1)) (m + (44 + sizeI ls) * (i + 1))) → J i W →
      (∀ ρ' di, VD W ρ' B D V di x → Mv ρ ρ' w W → DOk di → Calls Tryd.prog n args W fun e w' => e = .returned (.int .i64 (fn di).1) ∧ Left ρ' B D W (fn di).2 w') →
      Calls Tryd.prog n args W fun e W' => ∃ r, e = .returned (.int .i64 r) ∧ (r = 0 → J (i + 1) W') ∧ (r ≠ 0 → E r W') := fun i fn n args W hi hd hf hJ hc => by
    obtain ⟨di, hs, hsz', ρ', h1, m1⟩ := jd i W (by omega) hJ
    have hm2 : (44 + sizeI ls) * i ≤ 10000044 * 4 := Nat.mul_le_mul (by omega) (show i ≤ 4 by omega)
    refine (hc ρ' di ⟨h1, h.va.mv m1 h.role, (m1.role V h.va.lt).trans h.role⟩ m1 (hsz'.ok (by omega) (by omega))).mono fun e w' ⟨he, ρ'', h2, m2⟩ => ⟨_, he, fun hz0 => ?_, fun hnz => ?_⟩
    · show J (i + 1) w'
      simp only [J, if_pos (show i + 1 < 5 by omega)]
      exact ⟨(fn di).2, by rw [hs, hd, seqD_zero hz0], hf di hsz', ρ'', h2, m1.trans m2⟩
    · have e2 : seqD (compL x ls) d = fn di := by rw [hs, hd, seqD_ne hnz]
      exact ⟨by rw [e2], by rw [e2]; exact h.left ⟨ρ'', h2, m1.trans m2⟩⟩
  have js : ∀ i W, i < 5 → J i W → W.cell? ⟨b, 0, none⟩ = some (.pointer (some ⟨V, 0, none⟩)) := fun i W hi hJ => cell b 0 _ cb rb i W hi hJ
  have jo : ∀ i W, i < 5 → J i W → W.cell? ⟨b2, 0, none⟩ = some (.int .i64 (1 - x.file)) := fun i W hi hJ => cell b2 0 _ c2 rb2 i W hi hJ
  have r1 : ∀ {ρ' W}, Mv ρ ρ' w W → ρ' b = 0 := fun m1 => (m1.role b (block_lt_of_cell cb)).trans rb
  have r2 : ∀ {ρ' W}, Mv ρ ρ' w W → ρ' b2 = 0 := fun m1 => (m1.role b2 (block_lt_of_cell c2)).trans rb2
  refine (all_comp g cap (.pointer (some ⟨b, 0, none⟩)) (.pointer (some ⟨b2, 0, none⟩)) (.pointer (some ⟨b3, 0, none⟩)) (.pointer (some ⟨b4, 0, none⟩)) w J E
    (fun W hJ => cell g 0 _ f0 rg 0 W (by omega) hJ) (fun W hJ => step 0 _ _ _ W (by omega) rfl (fun di hd => (hd.vcut (1 - x.file) 0).up (by omega) (by omega)) hJ fun ρ' di h1 m1 ok => comp1_c h1 ok b b2 _ (r1 m1) (r2 m1) (js 0 W (by omega) hJ) (jo 0 W (by omega) hJ))
    (fun W hJ => cell g 1 _ f1 rg 1 W (by omega) hJ) (fun W hJ => step 1 _ _ _ W (by omega) rfl (fun di hd => by
      have := hd.write (1 - x.file) (compS x ls); rw [hfl] at this; exact this.up (by omega) (by omega)) hJ fun ρ' di h1 m1 ok => comp2_c h1 ok b b2 b3 _ sv _ (r1 m1) (r2 m1) ((m1.role b3 (block_lt_of_cell c3)).trans rb3) (js 1 W (by omega) hJ) (jo 1 W (by omega) hJ) (cell b3 0 _ c3 rb3 1 W (by omega) hJ) (hsv.mv m1) (by rw [hfl]; omega))
    (fun W hJ => cell g 2 _ f2 rg 2 W (by omega) hJ) (fun W hJ => step 2 _ _ _ W (by omega) rfl (fun di hd => (hd.sync (1 - x.file)).up (by omega) (by omega)) hJ fun ρ' di h1 m1 ok => comp3_c h1 ok b b2 _ (r1 m1) (r2 m1) (js 2 W (by omega) hJ) (jo 2 W (by omega) hJ))
    (fun W hJ => cell g 3 _ f3 rg 3 W (by omega) hJ) (fun W hJ => step 3 _ _ _ W (by omega) rfl (fun di hd => (hd.cut x.file 0).up (by omega) (by omega)) hJ fun ρ' di h1 m1 ok => comp4_c h1 ok b (r1 m1) (js 3 W (by omega) hJ))
    (fun W hJ => cell g 4 _ f4 rg 4 W (by omega) hJ) (fun W hJ => ?_)
    (by
      show J 0 w
      simp only [J, if_pos (show 0 < 5 by omega)]
      exact ⟨d, rfl, hz.up (by omega) (by omega), ρ, h.disk, Mv.refl ρ w⟩)).mono fun e w' ⟨r, he, hz0, hnz⟩ => ?_
  · obtain ⟨di, hs, -, ρ', h1, m1⟩ := jd 4 W (by omega) hJ
    have hv : VD W ρ' B D V di x := ⟨h1, h.va.mv m1 h.role, (m1.role V h.va.lt).trans h.role⟩
    refine (comp5_c hv.va b b2 b4 (1 - x.file) p ls.length lc (js 4 W (by omega) hJ) (jo 4 W (by omega) hJ) (cell b4 0 _ c4 rb4 4 W (by omega) hJ) hg).mono fun e w' ⟨he, hw⟩ => ⟨0, he, fun _ => ?_, fun e => absurd rfl e⟩
    show J 5 w'
    have e2 : seqD (compL x ls) d = (0, di) := hs
    simp only [J, if_neg (show ¬ 5 < 5 by omega)]
    rw [e2, hw]
    have hfc : ((1 - x.file : Nat) : Int) = 1 - (x.file : Int) := by omega
    have hv1 : VD (W.setCell ⟨V, 1, none⟩ (.int .i64 (1 - (x.file : Int)))) ρ' B D V di { x with file := 1 - x.file } := ⟨h1.setV hv.role 1 _, by rw [← hfc]; exact hv.va.setFile (1 - x.file), hv.role⟩
    have hv2 : VD ((W.setCell ⟨V, 1, none⟩ (.int .i64 (1 - (x.file : Int)))).setCell ⟨V, 2, none⟩ (.int .u64 (x.gen + 1))) ρ' B D V di { x with file := 1 - x.file, gen := x.gen + 1 } := ⟨hv1.disk.setV hv.role 2 _, hv1.va.setGen _, hv.role⟩
    exact ⟨rfl, ρ', (hv2.setN _).drewn, (((((m1.v V).set hv.role 1 _).set hv.role 2 _).set hv.role 3 _).trans (MvV.drew ρ' V _))⟩
  · subst he
    by_cases hr0 : r = 0
    · have hJ3 : (seqD (compL x ls) d).1 = 0 ∧ VLeft2 ρ B D V w (seqD (compL x ls) d).2 ⟨1 - x.file, x.gen + 1, ls.length, x.broken⟩ w' := by simpa only [J, if_neg (show ¬ 5 < 5 by omega)] using hz0 hr0
      exact ⟨by rw [hr0, hJ3.1], fun _ => hJ3.2, fun e => absurd hJ3.1 e⟩
    · obtain ⟨e1, hl⟩ := hnz hr0
      exact ⟨by rw [e1], fun e => absurd (e1.symm.trans e) hr0, fun _ => hl⟩
end Go.Proofs.YtfohemgfiidokaaDoor
