/- vault's Add. vault's Compact: its closures. -/
import Derived.Test.YtfohemgfiidokaaGreatDoorQz
namespace Go.Proofs.YtfohemgfiidokaaGreatDoor
open Go.RowKit Go.Sort

theorem bel_set0 {a w : World} (h : RowKit.Below a.heap.size a w) (b o : Nat) (hb : a.heap.size ≤ b) (v : Value) : RowKit.Below a.heap.size a (w.setCell ⟨b, o, none⟩ v) := h.setCell hb v
theorem Left.cell {w w' : World} {ρ : Nat → Nat} {B D : Nat} {d : Dk} {a : Addr} {v : Value} (hl : Left ρ B D w d w') (hc : w.cell? a = some v) (hr : ρ a.block = 0 ∨ 3 < ρ a.block) : w'.cell? a = some v := by
  obtain ⟨ρ', -, m⟩ := hl
  exact (World.cell?_of_block (m.block _ (block_lt_of_cell hc) hr)).trans hc
set_option maxRecDepth 100000 in
theorem add1_c {w : World} {ρ : Nat → Nat} {B D V : Nat} {d : Dk} {x : Va} (h : VD w ρ B D V d x) (ok : DOk d) (b b2 : Nat) (v : Value) (s : List Int) (rb : ρ b = 0) (rb2 : ρ b2 = 0) (cb : w.cell? ⟨b, 0, none⟩ = some (.pointer (some ⟨V, 0, none⟩))) (c2 : w.cell? ⟨b2, 0, none⟩ = some v) (hv : RdS w ρ v s) (hs : s.length ≤ 100000000) :
    Calls Tryz.prog 40 #[.pointer (some ⟨b, 0, none⟩), .pointer (some ⟨b2, 0, none⟩)] w fun e w' => e = .returned (.int .i64 (d.write x.file s).1) ∧ Left ρ B D w (d.write x.file s).2 w' := by
  have hbd := (RowKit.Below.refl w.heap.size w).drew
  have hc := write_any (h.disk.keep hbd) ok x.file v s (hv.mv (Mv.drew ρ w)) (by omega)
  obtain ⟨p, cp, rfl⟩ := hv.shape
  have hV4 : 3 < ρ V := by rw [h.role]; omega
  have e1 := h.va.d
  have e2 := h.va.file
  have cbd : w.drew.cell? ⟨b, 0, none⟩ = some (.pointer (some ⟨V, 0, none⟩)) := cb
  have e1d : w.drew.cell? ⟨V, 0, none⟩ = some (.pointer (some ⟨D, 0, none⟩)) := e1
  have e2d : w.drew.cell? ⟨V, 1, none⟩ = some (.int .i64 x.file) := e2
  have c2d : w.drew.cell? ⟨b2, 0, none⟩ = some (.slice p s.length cp) := c2
  generalize d.write x.file s = r at *
  go_enter Tryz.func40, Tryz.ntmps40
  go_upto_region 1 with fail
  go_region_held3 (fun V' => V'.cell? ⟨b, 0, none⟩ = some (.pointer (some ⟨V, 0, none⟩)) ∧ V'.cell? ⟨V, 0, none⟩ = some (.pointer (some ⟨D, 0, none⟩)) ∧ V'.cell? ⟨V, 1, none⟩ = some (.int .i64 x.file) ∧ V'.cell? ⟨b2, 0, none⟩ = some (.slice p s.length cp)) (go_keep) (first | (go_at_call 41; (with_reducible refine hc.mono ?_); rintro e w1 ⟨rfl, hl⟩; have q1 := hl.cell cbd (.inl rb); have q2 := hl.cell e1d (.inr hV4); have q3 := hl.cell e2d (.inr hV4); have q4 := hl.cell c2d (.inl rb2)))
  all_goals go_wp2
  all_goals go_ret
  all_goals exact ⟨rfl, Left.after hbd hl⟩
set_option maxRecDepth 100000 in
theorem add2_c {w : World} {ρ : Nat → Nat} {B D V : Nat} {d : Dk} {x : Va} (h : VD w ρ B D V d x) (ok : DOk d) (b : Nat) (rb : ρ b = 0) (cb : w.cell? ⟨b, 0, none⟩ = some (.pointer (some ⟨V, 0, none⟩))) :
    Calls Tryz.prog 42 #[.pointer (some ⟨b, 0, none⟩)] w fun e w' => e = .returned (.int .i64 (d.sync x.file).1) ∧ Left ρ B D w (d.sync x.file).2 w' := by
  have hbd := (RowKit.Below.refl w.heap.size w).drew
  have hc := sync_any (h.disk.keep hbd) ok x.file
  have hV4 : 3 < ρ V := by rw [h.role]; omega
  have e1 := h.va.d
  have e2 := h.va.file
  have cbd : w.drew.cell? ⟨b, 0, none⟩ = some (.pointer (some ⟨V, 0, none⟩)) := cb
  have e1d : w.drew.cell? ⟨V, 0, none⟩ = some (.pointer (some ⟨D, 0, none⟩)) := e1
  have e2d : w.drew.cell? ⟨V, 1, none⟩ = some (.int .i64 x.file) := e2
  generalize d.sync x.file = r at *
  go_enter Tryz.func42, Tryz.ntmps42
  go_upto_region 1 with fail
  go_region_held3 (fun V' => V'.cell? ⟨b, 0, none⟩ = some (.pointer (some ⟨V, 0, none⟩)) ∧ V'.cell? ⟨V, 0, none⟩ = some (.pointer (some ⟨D, 0, none⟩)) ∧ V'.cell? ⟨V, 1, none⟩ = some (.int .i64 x.file)) (go_keep) (first | (go_at_call 35; (with_reducible refine hc.mono ?_); rintro e w1 ⟨rfl, hl⟩; have q1 := hl.cell cbd (.inl rb); have q2 := hl.cell e1d (.inr hV4); have q3 := hl.cell e2d (.inr hV4)))
  all_goals go_wp2
  all_goals go_ret
  all_goals exact ⟨rfl, Left.after hbd hl⟩
set_option maxRecDepth 100000 in
theorem add3_c {w : World} {D V : Nat} {x : Va} (h : VaAt w V D x) (b b2 : Nat) (p : Option Addr) (n cap : Nat) (cb : w.cell? ⟨b, 0, none⟩ = some (.pointer (some ⟨V, 0, none⟩))) (c2 : w.cell? ⟨b2, 0, none⟩ = some (.slice p n cap)) (hn : 0 ≤ x.n ∧ x.n ≤ 100000000) (hl : n ≤ 100000000) :
    Calls Tryz.prog 43 #[.pointer (some ⟨b, 0, none⟩), .pointer (some ⟨b2, 0, none⟩)] w fun e w' => e = .returned (.int .i64 0) ∧ w' = (w.setCell ⟨V, 3, none⟩ (.int .i64 (x.n + n))).drew := by
  have e1 := h.n
  have z := h.fz 3
  have hw : IntKind.i64.wrap (x.n + n) = x.n + n := by rw [IntKind.wrap_i64]; omega
  go_enter Tryz.func43, Tryz.ntmps43
  go_upto_region 1 with fail
  go_region
  all_goals go_wp2
  all_goals go_ret
  all_goals exact ⟨rfl, rfl⟩

theorem VD.setN {w : World} {ρ : Nat → Nat} {B D V : Nat} {d : Dk} {x : Va} (h : VD w ρ B D V d x) (n : Int) : VD (w.setCell ⟨V, 3, none⟩ (.int .i64 n)) ρ B D V d { x with n := n } := ⟨h.disk.setV h.role 3 _, h.va.setN n, h.role⟩
theorem VD.setB {w : World} {ρ : Nat → Nat} {B D V : Nat} {d : Dk} {x : Va} (h : VD w ρ B D V d x) (b : Bool) : VD (w.setCell ⟨V, 4, none⟩ (.bool b)) ρ B D V d { x with broken := b } := ⟨h.disk.setV h.role 4 _, h.va.setBroken b, h.role⟩
theorem VD.drewn {w : World} {ρ : Nat → Nat} {B D V : Nat} {d : Dk} {x : Va} (h : VD w ρ B D V d x) : VD w.drew ρ B D V d x := h.keep (RowKit.Below.refl _ w).drew
theorem MvV.drew (ρ : Nat → Nat) (V : Nat) (w : World) : MvV ρ ρ V w w.drew := (Mv.drew ρ w).v V

theorem addV_all {w : World} {ρ : Nat → Nat} {B D V : Nat} {d : Dk} {x : Va} {k m : Nat} (h : VD w ρ B D V d x) (hz : DSz d k m) (hk : k ≤ 900000) (hm : m ≤ 9000000) (ls : List (List Int)) (hsz : sizeI ls ≤ 10000000) (hn : 0 ≤ x.n ∧ x.n ≤ 100000000) (b b2 b3 g cap : Nat) (sv : Value) (p : Option Addr) (lc : Nat)
    (cb : w.cell? ⟨b, 0, none⟩ = some (.pointer (some ⟨V, 0, none⟩))) (c2 : w.cell? ⟨b2, 0, none⟩ = some sv) (hsv : RdS w ρ sv (framesI x.gen x.n ls)) (c3 : w.cell? ⟨b3, 0, none⟩ = some (.slice p ls.length lc)) (rb : ρ b = 0) (rb2 : ρ b2 = 0) (rb3 : ρ b3 = 0) (rg : ρ g = 0)
    (f0 : w.cell? ⟨g, 0, none⟩ = some (.func (.func 40) #[] #[.pointer (some ⟨b, 0, none⟩), .pointer (some ⟨b2, 0, none⟩)])) (f1 : w.cell? ⟨g, 1, none⟩ = some (.func (.func 42) #[] #[.pointer (some ⟨b, 0, none⟩)]))
    (f2 : w.cell? ⟨g, 2, none⟩ = some (.func (.func 43) #[] #[.pointer (some ⟨b, 0, none⟩), .pointer (some ⟨b3, 0, none⟩)])) :
    Calls Tryz.prog 31 #[.slice (some ⟨g, 0, none⟩) 3 cap] w fun e w' => e = .returned (.int .i64 (seqD (addL x ls) d).1) ∧ ((seqD (addL x ls) d).1 = 0 → VLeft2 ρ B D V w (seqD (addL x ls) d).2 { x with n := x.n + ls.length } w') ∧ ((seqD (addL x ls) d).1 ≠ 0 → VLeft2 ρ B D V w (seqD (addL x ls) d).2 x w') := by
  have hll := len_le_size ls
  have hfl := framesI_len x.gen ls x.n
  let J : Nat → World → Prop := fun i W => if i < 3 then ∃ di, seqD (addL x ls) d = seqD ((addL x ls).drop i) di ∧ DSz di (k + i) (m + sizeI ls * i) ∧ Left ρ B D w di W else (seqD (addL x ls) d).1 = 0 ∧ VLeft2 ρ B D V w (seqD (addL x ls) d).2 { x with n := x.n + ls.length } W
  let E : Int → World → Prop := fun r W => (seqD (addL x ls) d).1 = r ∧ VLeft2 ρ B D V w (seqD (addL x ls) d).2 x W
  have jd : ∀ i W, i < 3 → J i W → ∃ di, seqD (addL x ls) d = seqD ((addL x ls).drop i) di ∧ DSz di (k + i) (m + sizeI ls * i) ∧ Left ρ B D w di W := fun i W hi hJ => by simpa only [J, if_pos hi] using hJ
  have cell : ∀ (a : Nat) (o : Nat) (v : Value), w.cell? ⟨a, o, none⟩ = some v → ρ a = 0 → ∀ i W, i < 3 → J i W → W.cell? ⟨a, o, none⟩ = some v := fun a o v hc hra i W hi hJ => by
    obtain ⟨di, -, -, hl⟩ := jd i W hi hJ
    exact hl.cell hc (.inl hra)
  have step : ∀ (i : Nat) (fn : Dk → Int × Dk) (n : Nat) (args : Array Value) (W : World), i < 2 → (addL x ls).drop i = fn :: (addL x ls).drop (i + 1) → (∀ di, DSz di (k + i) (m + sizeI ls * i) → DSz (fn di).2 (k + (i + 1)) (m + sizeI ls * (i + 1))) → J i W →
      (∀ ρ' di, VD W ρ' B D V di x → Mv ρ ρ' w W → DOk di → Calls Tryz.prog n args W fun e w' => e = .returned (.int .i64 (fn di).1) ∧ Left ρ' B D W (fn di).2 w') →
      Calls Tryz.prog n args W fun e W' => ∃ r, e = .returned (.int .i64 r) ∧ (r = 0 → J (i + 1) W') ∧ (r ≠ 0 → E r W') := fun i fn n args W hi hd hf hJ hc => by
    obtain ⟨di, hs, hsz', ρ', h1, m1⟩ := jd i W (by omega) hJ
    have hm2 : sizeI ls * i ≤ 20000000 := Nat.le_trans (Nat.mul_le_mul hsz (show i ≤ 2 by omega)) (by omega)
    refine (hc ρ' di ⟨h1, h.va.mv m1 h.role, (m1.role V h.va.lt).trans h.role⟩ m1 (hsz'.ok (by omega) (by omega))).mono fun e w' ⟨he, ρ'', h2, m2⟩ => ⟨_, he, fun hz0 => ?_, fun hnz => ?_⟩
    · show J (i + 1) w'
      simp only [J, if_pos (show i + 1 < 3 by omega)]
      exact ⟨(fn di).2, by rw [hs, hd, seqD_zero hz0], hf di hsz', ρ'', h2, m1.trans m2⟩
    · have e2 : seqD (addL x ls) d = fn di := by rw [hs, hd, seqD_ne hnz]
      exact ⟨by rw [e2], by rw [e2]; exact h.left ⟨ρ'', h2, m1.trans m2⟩⟩
  have js : ∀ i W, i < 3 → J i W → W.cell? ⟨b, 0, none⟩ = some (.pointer (some ⟨V, 0, none⟩)) := fun i W hi hJ => cell b 0 _ cb rb i W hi hJ
  refine (all_add g cap (.pointer (some ⟨b, 0, none⟩)) (.pointer (some ⟨b2, 0, none⟩)) (.pointer (some ⟨b3, 0, none⟩)) w J E
    (fun W hJ => cell g 0 _ f0 rg 0 W (by omega) hJ) (fun W hJ => step 0 _ _ _ W (by omega) rfl (fun di hd => by
      have := hd.write x.file (framesI x.gen x.n ls); rw [hfl] at this; exact this.up (by omega) (by omega)) hJ fun ρ' di h1 m1 ok => add1_c h1 ok b b2 sv _ ((m1.role b (block_lt_of_cell cb)).trans rb) ((m1.role b2 (block_lt_of_cell c2)).trans rb2) (js 0 W (by omega) hJ) (cell b2 0 _ c2 rb2 0 W (by omega) hJ) (hsv.mv m1) (by rw [hfl]; omega))
    (fun W hJ => cell g 1 _ f1 rg 1 W (by omega) hJ) (fun W hJ => step 1 _ _ _ W (by omega) rfl (fun di hd => (hd.sync x.file).up (by omega) (by omega)) hJ fun ρ' di h1 m1 ok => add2_c h1 ok b ((m1.role b (block_lt_of_cell cb)).trans rb) (js 1 W (by omega) hJ))
    (fun W hJ => cell g 2 _ f2 rg 2 W (by omega) hJ) (fun W hJ => ?_)
    (by
      show J 0 w
      simp only [J, if_pos (show 0 < 3 by omega)]
      exact ⟨d, rfl, hz.up (by omega) (by omega), ρ, h.disk, Mv.refl ρ w⟩)).mono fun e w' ⟨r, he, hz0, hnz⟩ => ?_
  · obtain ⟨di, hs, -, ρ', h1, m1⟩ := jd 2 W (by omega) hJ
    have hv : VD W ρ' B D V di x := ⟨h1, h.va.mv m1 h.role, (m1.role V h.va.lt).trans h.role⟩
    refine (add3_c hv.va b b3 p ls.length lc (js 2 W (by omega) hJ) (cell b3 0 _ c3 rb3 2 W (by omega) hJ) hn (by omega)).mono fun e w' ⟨he, hw⟩ => ⟨0, he, fun _ => ?_, fun e => absurd rfl e⟩
    show J 3 w'
    have e2 : seqD (addL x ls) d = (0, di) := hs
    simp only [J, if_neg (show ¬ 3 < 3 by omega)]
    rw [e2, hw]
    exact ⟨rfl, ρ', (hv.setN _).drewn, (((m1.v V).set hv.role 3 _).trans (MvV.drew ρ' V _))⟩
  · subst he
    by_cases hr0 : r = 0
    · have hJ3 : (seqD (addL x ls) d).1 = 0 ∧ VLeft2 ρ B D V w (seqD (addL x ls) d).2 { x with n := x.n + ls.length } w' := by simpa only [J, if_neg (show ¬ 3 < 3 by omega)] using hz0 hr0
      exact ⟨by rw [hr0, hJ3.1], fun _ => hJ3.2, fun e => absurd hJ3.1 e⟩
    · obtain ⟨e1, hl⟩ := hnz hr0
      exact ⟨by rw [e1], fun e => absurd (e1.symm.trans e) hr0, fun _ => hl⟩

theorem vmayv_zero {b : Bool} {ls : List (List Int)} (h : vmayv b ls = 0) : b = false ∧ lngI ls = false := by
  unfold vmayv at h
  cases b <;> cases hl : lngI ls <;> simp [hl] at h ⊢
theorem lsok {ls : List (List Int)} : ls.length = 0 → ls = [] := List.length_eq_zero_iff.1

theorem vroom_c {w : World} {ρ : Nat → Nat} {B D : Nat} {d : Dk} (h : DiskAt w ρ B D d) (ok : DOk d) : Calls Tryz.prog 16 #[.pointer (some ⟨D, 0, none⟩)] w fun e w' => e = .returned (.int .i64 (roomF d)) ∧ RowKit.Below w.heap.size w w' :=
  room_at h ok.1 ok.2.1 ok.2.2.1 ok.2.2.2
set_option maxRecDepth 100000 in
set_option maxHeartbeats 1600000 in
theorem add_no {w : World} {ρ : Nat → Nat} {B D V : Nat} {d : Dk} {x : Va} (h : VD w ρ B D V d x) (v : Value) (ls : List (List Int)) (hv : RdL w v ls) (hln : ls.length ≤ 250000) (hm0 : vmayv x.broken ls ≠ 0) :
    Calls Tryz.prog 14 #[.pointer (some ⟨V, 0, none⟩), v] w fun e w' => e = .returned (.int .i64 (vmayv x.broken ls)) ∧ VLeft2 ρ B D V w d x w' := by
  have hmay := fun W (hb : RowKit.Below w.heap.size w W) => vmay_c (h.va.keep hb) v ls (hv.keep hb) (by omega)
  obtain ⟨p, cap, rfl, hcap, hel⟩ := hv.shape
  clear hel
  have HH := Lib.hid h
  generalize vmayv x.broken ls = z at *
  have hq : (z == 0) = false := by rw [beq_eq_false_iff_ne]; exact hm0
  have HM := Lib.hid hmay
  clear hm0 h hmay hv
  have hb2 : RowKit.Below w.heap.size w ((w.alloc (.cells #[.pointer (some ⟨V, 0, none⟩)] 34)).alloc (.cells #[.slice p ls.length cap] 39)) := bel_alloc (bel_alloc (RowKit.Below.refl _ _) _) _
  go_enter Tryz.func14, Tryz.ntmps14
  go_wp2_with (go_at_call 37; with_reducible refine (HM.out _ hb2).mono ?_; rintro e w1 ⟨rfl, rfl⟩)
  go_ret
  exact ⟨rfl, HH.out.below hb2⟩

/-- the world behind the first two variables of Add -/
theorem box2 {w : World} {ρ : Nat → Nat} {B D V : Nat} {d : Dk} {x : Va} (h : VD w ρ B D V d x) (p : Option Addr) (n cap : Nat) : ∃ W, ((w.alloc (.cells #[.pointer (some ⟨V, 0, none⟩)] 34)).alloc (.cells #[.slice p n cap] 39)) = W ∧ RowKit.Below w.heap.size w W ∧ W.heap.size = w.heap.size + 2 ∧ W.cell? ⟨w.heap.size, 0, none⟩ = some (.pointer (some ⟨V, 0, none⟩)) ∧ W.cell? ⟨w.heap.size + 1, 0, none⟩ = some (.slice p n cap) ∧ VD W ρ B D V d x :=
  ⟨_, rfl, bel_alloc (bel_alloc (RowKit.Below.refl _ _) _) _, by simp, by simp [go_sem], by simp [go_sem], h.keep (bel_alloc (bel_alloc (RowKit.Below.refl _ _) _) _)⟩

/-- behind frames: Add's three variables -/
def AddMid (w W : World) (V bs : Nat) (p : Option Addr) (n cap : Nat) (v2 : Value) (s : List Int) : Prop :=
  RowKit.Below w.heap.size w W ∧ W.cell? ⟨w.heap.size, 0, none⟩ = some (.pointer (some ⟨V, 0, none⟩)) ∧ W.cell? ⟨w.heap.size + 1, 0, none⟩ = some (.slice p n cap) ∧ W.cell? ⟨bs, 0, none⟩ = some v2 ∧ RowO W w.heap.size v2 s ∧ w.heap.size ≤ bs
theorem addMid_a {w W1 w2 : World} {V : Nat} {p : Option Addr} {n cap : Nat} {v2 : Value} {s : List Int} (h1 : RowKit.Below w.heap.size w W1) (cb : W1.cell? ⟨w.heap.size, 0, none⟩ = some (.pointer (some ⟨V, 0, none⟩))) (cl : W1.cell? ⟨w.heap.size + 1, 0, none⟩ = some (.slice p n cap)) (hb : RowKit.Below W1.drew.heap.size W1.drew w2) (hr : RowO w2 W1.drew.heap.size v2 s) :
    AddMid w (w2.alloc (.cells #[v2] 40)) V w2.heap.size p n cap v2 s := by
  have hb' : RowKit.Below W1.heap.size W1 (w2.alloc (.cells #[v2] 40)) := bel_alloc (show RowKit.Below W1.heap.size W1 w2 from ⟨hb.os, hb.tape, hb.output, hb.size, hb.block⟩) _
  have h1s := h1.size
  have h2s : W1.heap.size ≤ w2.heap.size := hb.size
  exact ⟨h1.trans (hb'.mono h1s), (hb'.cell (p := ⟨w.heap.size, 0, none⟩) (block_lt_of_cell cb)).trans cb, (hb'.cell (p := ⟨w.heap.size + 1, 0, none⟩) (block_lt_of_cell cl)).trans cl, cell_of_row _ _ _ _ _ _ (heap_alloc_new _ _), ownsRow_alloc (RowO.down hr h1s) _, by omega⟩
theorem addMid_b {w W1 w2 : World} {V : Nat} {p : Option Addr} {n cap : Nat} {v2 u : Value} {s : List Int} (h1 : RowKit.Below w.heap.size w W1) (cb : W1.cell? ⟨w.heap.size, 0, none⟩ = some (.pointer (some ⟨V, 0, none⟩))) (cl : W1.cell? ⟨w.heap.size + 1, 0, none⟩ = some (.slice p n cap)) (hb : RowKit.Below (W1.alloc (.cells #[u] 40)).drew.heap.size (W1.alloc (.cells #[u] 40)).drew w2) (hr : RowO w2 (W1.alloc (.cells #[u] 40)).drew.heap.size v2 s) :
    AddMid w (w2.setCell ⟨W1.heap.size, 0, none⟩ v2) V W1.heap.size p n cap v2 s := by
  have hz : (W1.alloc (.cells #[u] 40)).drew.heap.size = W1.heap.size + 1 := by show (W1.alloc _).heap.size = _; simp
  have hb' : RowKit.Below W1.heap.size W1 (w2.setCell ⟨W1.heap.size, 0, none⟩ v2) := bel_set0 (bel_call (bel_alloc (RowKit.Below.refl _ _) _).drew hb) _ _ (Nat.le_refl _) _
  have h1s := h1.size
  refine ⟨h1.trans (hb'.mono h1s), (hb'.cell (p := ⟨w.heap.size, 0, none⟩) (block_lt_of_cell cb)).trans cb, (hb'.cell (p := ⟨w.heap.size + 1, 0, none⟩) (block_lt_of_cell cl)).trans cl, set_same (u := u) ((hb.cell (p := ⟨W1.heap.size, 0, none⟩) (by show W1.heap.size < _; rw [hz]; omega)).trans (cell_of_row _ _ _ _ _ _ (heap_alloc_new W1 _))), ?_, h1s⟩
  rw [hz] at hr
  obtain ⟨e1, ⟨e2, e3⟩ | ⟨g, cp, cur, e2, e3, e4, e5⟩⟩ := hr
  · exact ⟨e1, .inl ⟨e2, e3⟩⟩
  · exact ⟨e1, .inr ⟨g, cp, cur, e2, by omega, by rw [set_heap (by omega)]; exact e4, e5⟩⟩

set_option maxRecDepth 100000 in
set_option maxHeartbeats 1600000 in
theorem add_ok {w : World} {ρ : Nat → Nat} {B D V : Nat} {d : Dk} {x : Va} {k m : Nat} (h : VD w ρ B D V d x) (hz : DSz d k m) (hk : k ≤ 900000) (hm : m ≤ 9000000) (ht : KTab w) (v : Value) (ls : List (List Int)) (hv : RdL w v ls) (hlb : ∀ r ∈ ls, Bytes r) (hsz : sizeI ls ≤ 10000000) (hln : ls.length ≤ 250000) (hn : 0 ≤ x.n ∧ x.n ≤ 1000000) (hm0 : vmayv x.broken ls = 0) :
    Calls Tryz.prog 14 #[.pointer (some ⟨V, 0, none⟩), v] w fun e w' => e = .returned (.int .i64 (d.addV x ls).1) ∧ VLeft2 ρ B D V w (d.addV x ls).2.1 (d.addV x ls).2.2 w' := by
  have ok := hz.ok (by omega) (by omega)
  have hmay := fun W (hb : RowKit.Below w.heap.size w W) => vmay_c (h.va.keep hb) v ls (hv.keep hb) (by omega)
  rw [hm0] at hmay
  have hfr := fun W (hb : RowKit.Below w.heap.size w W) => frames_c x.gen x.n v ls W hn.1 hn.2 (hv.keep hb) hlb (by omega) hsz (ht.call hb)
  have hrm := fun W (hb : RowKit.Below w.heap.size w W) => vroom_c (h.disk.keep hb) ok
  obtain ⟨p, cap, rfl, hcap, hel⟩ := hv.shape
  clear hel
  obtain ⟨W1, hW1, hb1, hs1, cb, cl, hvd⟩ := box2 h p ls.length cap
  have hfl := framesI_len x.gen ls x.n
  have e1 := hvd.va.gen
  have e2 := hvd.va.n
  have hdr : RowKit.Below W1.heap.size W1 W1.drew := (RowKit.Below.refl _ _).drew
  have hdr2 : RowKit.Below W1.heap.size W1 (W1.alloc (.cells #[.slice none 0 0] 40)).drew := (bel_alloc (RowKit.Below.refl _ _) _).drew
  have HM := Lib.hid (hmay W1 hb1); have HFa := Lib.hid (hfr _ (bel_call hb1 hdr)); have HFb := Lib.hid (hfr _ (bel_call hb1 hdr2)); have HR := Lib.hid hrm
  have mk : ∀ W, RowKit.Below W1.heap.size W1 W → W.cell? ⟨w.heap.size, 0, none⟩ = some (.pointer (some ⟨V, 0, none⟩)) ∧ W.cell? ⟨w.heap.size + 1, 0, none⟩ = some (.slice p ls.length cap) ∧ W.cell? ⟨V, 2, none⟩ = some (.int .u64 x.gen) ∧ W.cell? ⟨V, 3, none⟩ = some (.int .i64 x.n) := fun W hb =>
    ⟨(hb.cell (block_lt_of_cell cb)).trans cb, (hb.cell (block_lt_of_cell cl)).trans cl, (hb.cell (block_lt_of_cell e1)).trans e1, (hb.cell (block_lt_of_cell e2)).trans e2⟩
  have bx1 : W1.heap.size < (W1.alloc (.cells #[.slice none 0 0] 40)).drew.heap.size := by simp
  have bx2 : (W1.alloc (.cells #[.slice none 0 0] 40)).drew.cell? ⟨W1.heap.size, 0, none⟩ = some (.slice none 0 0) := cell_of_row _ _ _ _ _ _ (heap_alloc_new W1 _)
  have bx3 : (W1.alloc (.cells #[.slice none 0 0] 40)).drew.frozen? ⟨W1.heap.size, 0, none⟩ = false := by
    unfold World.frozen?
    rw [show (W1.alloc (.cells #[.slice none 0 0] 40)).drew.heap[(⟨W1.heap.size, 0, none⟩ : Addr).block]? = _ from heap_alloc_new W1 _]
    simp
  have HB1 := Lib.hid hb1; have HVD := Lib.hid hvd; have HS1 := Lib.hid hs1
  have HH := Lib.hid h
  clear hmay hfr hrm hv hb1 hvd h hs1
  go_enter Tryz.func14, Tryz.ntmps14
  go_upto_region 4 with (go_at_call 37; with_reducible refine HM.out.mono ?_; rintro e w1 ⟨rfl, hw1⟩; obtain rfl := hw1.symm)
  clear hW1
  obtain ⟨q1, q2, q3, q4⟩ := mk _ hdr
  go_region_held3 (fun W => W.cell? ⟨w.heap.size, 0, none⟩ = some (.pointer (some ⟨V, 0, none⟩)) ∧ W.cell? ⟨w.heap.size + 1, 0, none⟩ = some (.slice p ls.length cap) ∧ W.cell? ⟨V, 2, none⟩ = some (.int .u64 x.gen) ∧ W.cell? ⟨V, 3, none⟩ = some (.int .i64 x.n))
    (first | (with_reducible refine mk _ ?_; repeat (first | with_reducible exact hdr | with_reducible exact hdr2 | with_reducible refine bel_alloc ?_ _ | with_reducible refine hq1 ?_ | with_reducible refine bel_set0 ?_ _ _ (Nat.le_refl _) _)) | fail)
    (first
    | (go_at_call 38; ((with_reducible refine HFa.out.mono ?_); rintro e w2 ⟨v2, rfl, hr2, hb2⟩; obtain ⟨p2, c2, rfl, hc2⟩ := hr2.rd.shape; have hq1 : RowKit.Below W1.heap.size W1 _ → RowKit.Below W1.heap.size W1 w2 := fun h => bel_call h hb2))
    | (go_at_call 38; (with_reducible refine HFb.out.mono ?_); rintro e w2 ⟨v2, rfl, hr2, hb2⟩; obtain ⟨p2, c2, rfl, hc2⟩ := hr2.rd.shape; have bc := (hb2.cell (p := ⟨W1.heap.size, 0, none⟩) bx1).trans bx2; have bf := (World.frozen?_of_block (a := ⟨W1.heap.size, 0, none⟩) (hb2.block W1.heap.size bx1)).trans bx3; have hq1 : RowKit.Below W1.heap.size W1 _ → RowKit.Below W1.heap.size W1 w2 := fun h => bel_call h hb2))
  all_goals rw [hfl] at hr2
  all_goals (first
    | (have hmid := addMid_a HB1.out cb cl hb2 hr2; generalize (w2.alloc (.cells #[.slice p2 (sizeI ls) c2] 40)) = W at *; generalize w2.heap.size = bs at *)
    | (have hmid := addMid_b HB1.out cb cl hb2 hr2; generalize (w2.setCell ⟨W1.heap.size, 0, none⟩ (.slice p2 (sizeI ls) c2)) = W at *; generalize W1.heap.size = bs at *))
  all_goals obtain ⟨hbw, cb', cl', cs', hrow, hbs⟩ := hmid
  all_goals have hvd2 := HH.out.keep hbw
  all_goals have e0 := hvd2.va.d
  all_goals have hdw : RowKit.Below W.heap.size W W.drew := (RowKit.Below.refl _ _).drew
  all_goals have hroom := HR.out W.drew (bel_call hbw hdw)
  all_goals have HROW := Lib.hid hrow
  all_goals have mk2 : ∀ W', RowKit.Below W.heap.size W W' → W'.cell? ⟨w.heap.size, 0, none⟩ = some (.pointer (some ⟨V, 0, none⟩)) ∧ W'.cell? ⟨bs, 0, none⟩ = some (.slice p2 (sizeI ls) c2) ∧ W'.cell? ⟨V, 0, none⟩ = some (.pointer (some ⟨D, 0, none⟩)) := fun W' hb =>
    ⟨(hb.cell (block_lt_of_cell cb')).trans cb', (hb.cell (block_lt_of_cell cs')).trans cs', (hb.cell (block_lt_of_cell e0)).trans e0⟩
  all_goals have HVD2 := Lib.hid hvd2
  all_goals have HBW := Lib.hid hbw
  all_goals obtain ⟨r1, r2, r3⟩ := mk2 _ hdw
  all_goals clear hrow hr2 hvd2 hbw q1 q2 q3 q4 hb2 hq1
  all_goals have hroom2 : Calls Tryz.prog 16 #[.pointer (some ⟨D, 0, none⟩)] W.drew fun e w' => e = .returned (.int .i64 (roomF d)) ∧ RowKit.Below W.heap.size W w' := hroom.mono fun e w' h => ⟨h.1, bel_call hdw h.2⟩
  all_goals clear hroom
  all_goals go_upto_region 5 with fail
  all_goals go_region_held3 (fun W' => W'.cell? ⟨w.heap.size, 0, none⟩ = some (.pointer (some ⟨V, 0, none⟩)) ∧ W'.cell? ⟨bs, 0, none⟩ = some (.slice p2 (sizeI ls) c2) ∧ W'.cell? ⟨V, 0, none⟩ = some (.pointer (some ⟨D, 0, none⟩)))
    (first | (with_reducible refine mk2 _ ?_; first | with_reducible exact hdw | with_reducible exact hb3) | fail)
    (first | (go_at_call 16; (with_reducible refine hroom2.mono ?_); rintro e w3 ⟨rfl, hb3⟩))
  all_goals obtain ⟨s1, s2, s3⟩ := mk2 _ hb3
  all_goals have cl3 := (hb3.cell (block_lt_of_cell cl')).trans cl'
  · by_cases hlt : roomF d < sizeI ls
    · have hA : d.addV x ls = (7, d, x) := by unfold Dk.addV; rw [if_neg (by simp [hm0]), if_pos hlt]
      have hd : decide (roomF d < (sizeI ls : Int)) = true := decide_eq_true hlt
      rw [hd]
      have HA := Lib.hid hA
      clear hlt hA
      go_wp2
      go_ret
      rw [HA.out]
      exact ⟨rfl, HH.out.below (bel_call HBW.out hb3)⟩
    · by_cases h0 : ls.length = 0
      · have hA : d.addV x ls = (0, d, x) := by unfold Dk.addV; rw [if_neg (by simp [hm0]), if_neg hlt, if_pos h0]
        have hd : decide (roomF d < (sizeI ls : Int)) = false := decide_eq_false hlt
        rw [hd]
        have hq : ((ls.length : Int) == 0) = true := by rw [beq_iff_eq]; omega
        have HA := Lib.hid hA
        clear hlt hA h0
        go_wp2
        go_ret
        rw [HA.out]
        exact ⟨rfl, HH.out.below (bel_call HBW.out hb3)⟩
      · have hA : d.addV x ls = if (seqD (addL x ls) d).1 = 0 then (0, (seqD (addL x ls) d).2, { x with n := x.n + ls.length, broken := false }) else ((seqD (addL x ls) d).1, (seqD (addL x ls) d).2, { x with broken := true }) := by unfold Dk.addV; rw [if_neg (by simp [hm0]), if_neg hlt, if_neg h0]
        have hd : decide (roomF d < (sizeI ls : Int)) = false := decide_eq_false hlt
        rw [hd]
        have hq : ((ls.length : Int) == 0) = false := by rw [beq_eq_false_iff_ne]; omega
        have HA := Lib.hid hA
        clear hlt hA h0
        have h3 := HH.out.keep (bel_call HBW.out hb3)
        have hb4 : RowKit.Below w3.heap.size w3 (w3.alloc (.cells #[.func (.func 40) #[] #[.pointer (some ⟨w.heap.size, 0, none⟩), .pointer (some ⟨bs, 0, none⟩)], .func (.func 42) #[] #[.pointer (some ⟨w.heap.size, 0, none⟩)], .func (.func 43) #[] #[.pointer (some ⟨w.heap.size, 0, none⟩), .pointer (some ⟨w.heap.size + 1, 0, none⟩)]] 54)).drew := (bel_alloc (RowKit.Below.refl _ _) _).drew
        have cg : ∀ j, (w3.alloc (.cells #[.func (.func 40) #[] #[.pointer (some ⟨w.heap.size, 0, none⟩), .pointer (some ⟨bs, 0, none⟩)], .func (.func 42) #[] #[.pointer (some ⟨w.heap.size, 0, none⟩)], .func (.func 43) #[] #[.pointer (some ⟨w.heap.size, 0, none⟩), .pointer (some ⟨w.heap.size + 1, 0, none⟩)]] 54)).drew.cell? ⟨w3.heap.size, j, none⟩ = (#[.func (.func 40) #[] #[.pointer (some ⟨w.heap.size, 0, none⟩), .pointer (some ⟨bs, 0, none⟩)], .func (.func 42) #[] #[.pointer (some ⟨w.heap.size, 0, none⟩)], .func (.func 43) #[] #[.pointer (some ⟨w.heap.size, 0, none⟩), .pointer (some ⟨w.heap.size + 1, 0, none⟩)]] : Array Value)[j]? := fun j => cell_of_row _ _ _ _ _ _ (heap_alloc_new _ _)
        have hs3 := (bel_call HBW.out hb3).size
        have ka := addV_all (h3.keep hb4) hz hk hm ls hsz ⟨hn.1, by omega⟩ w.heap.size bs (w.heap.size + 1) w3.heap.size 3 (.slice p2 (sizeI ls) c2) p cap
          ((hb4.cell (block_lt_of_cell s1)).trans s1) ((hb4.cell (block_lt_of_cell s2)).trans s2) (((HROW.out.keep (bel_call hb3 hb4))).rds HH.out.disk.fresh) ((hb4.cell (block_lt_of_cell cl3)).trans cl3)
          (HH.out.disk.fresh _ (Nat.le_refl _)) (HH.out.disk.fresh _ hbs) (HH.out.disk.fresh _ (by omega)) (HH.out.disk.fresh _ hs3) (cg 0) (cg 1) (cg 2)
        have hmf : ∀ (fn : Fn) (first cap : Array Value) (w : World), (Instr.makeFunc fn first cap).run Tryz.prog w = .ok (.func fn first cap) w := fun _ _ _ _ => rfl
        generalize seqD (addL x ls) d = rr at *
        obtain ⟨r, d'⟩ := rr
        dsimp only at ka
        have ka2 : Calls Tryz.prog 31 #[.slice (some ⟨w3.heap.size, 0, none⟩) 3 3] (w3.alloc (.cells #[.func (.func 40) #[] #[.pointer (some ⟨w.heap.size, 0, none⟩), .pointer (some ⟨bs, 0, none⟩)], .func (.func 42) #[] #[.pointer (some ⟨w.heap.size, 0, none⟩)], .func (.func 43) #[] #[.pointer (some ⟨w.heap.size, 0, none⟩), .pointer (some ⟨w.heap.size + 1, 0, none⟩)]] 54)).drew fun e w' => e = .returned (.int .i64 r) ∧ VLeft2 ρ B D V (w3.alloc (.cells #[.func (.func 40) #[] #[.pointer (some ⟨w.heap.size, 0, none⟩), .pointer (some ⟨bs, 0, none⟩)], .func (.func 42) #[] #[.pointer (some ⟨w.heap.size, 0, none⟩)], .func (.func 43) #[] #[.pointer (some ⟨w.heap.size, 0, none⟩), .pointer (some ⟨w.heap.size + 1, 0, none⟩)]] 54)).drew d' { x with n := if r = 0 then x.n + ls.length else x.n } w' := ka.mono fun e w' ⟨he, h0, h1⟩ => ⟨he, by
          by_cases hr : r = 0
          · rw [if_pos hr]; exact h0 hr
          · rw [if_neg hr]; exact h1 hr⟩
        have hr0 := HH.out.disk.fresh w.heap.size (Nat.le_refl _)
        have hVne : w.heap.size ≠ V := fun e => by have := HH.out.role; rw [← e] at this; omega
        have cell5 : ∀ ρ5 w5, MvV ρ ρ5 V (w3.alloc (.cells #[.func (.func 40) #[] #[.pointer (some ⟨w.heap.size, 0, none⟩), .pointer (some ⟨bs, 0, none⟩)], .func (.func 42) #[] #[.pointer (some ⟨w.heap.size, 0, none⟩)], .func (.func 43) #[] #[.pointer (some ⟨w.heap.size, 0, none⟩), .pointer (some ⟨w.heap.size + 1, 0, none⟩)]] 54)).drew w5 → w5.cell? ⟨w.heap.size, 0, none⟩ = some (.pointer (some ⟨V, 0, none⟩)) := fun ρ5 w5 m5 => (World.cell?_of_block (a := ⟨w.heap.size, 0, none⟩) (m5.block w.heap.size (Nat.lt_of_lt_of_le (block_lt_of_cell s1) hb4.size) (.inl hr0))).trans ((hb4.cell (block_lt_of_cell s1)).trans s1)
        have s1d : w3.drew.cell? ⟨w.heap.size, 0, none⟩ = some (.pointer (some ⟨V, 0, none⟩)) := s1
        have s1g : (w3.alloc (.cells #[.func (.func 40) #[] #[.pointer (some ⟨w.heap.size, 0, none⟩), .pointer (some ⟨bs, 0, none⟩)], .func (.func 42) #[] #[.pointer (some ⟨w.heap.size, 0, none⟩)], .func (.func 43) #[] #[.pointer (some ⟨w.heap.size, 0, none⟩), .pointer (some ⟨w.heap.size + 1, 0, none⟩)]] 54)).drew.cell? ⟨w.heap.size, 0, none⟩ = some (.pointer (some ⟨V, 0, none⟩)) := (hb4.cell (block_lt_of_cell s1)).trans s1
        obtain ⟨bq, hbq⟩ : ∃ bq, decide (r ≠ 0) = bq := ⟨_, rfl⟩
        have kept5 : ∀ w5 x5, VaAt w5 V D x5 → Calls Tryz.prog 39 #[.pointer (some ⟨V, 0, none⟩), .int .i64 r] w5 fun e w' => e = .returned (.int .i64 r) ∧ w' = w5.setCell ⟨V, 4, none⟩ (.bool bq) := fun w5 x5 h5 => by rw [← hbq]; exact vkept_c h5 r
        have HBQ := Lib.hid hbq
        clear hbq
        have fin : ∀ ρ5 w5, VD w5 ρ5 B D V d' { x with n := if r = 0 then x.n + ls.length else x.n } → MvV ρ ρ5 V (w3.alloc (.cells #[.func (.func 40) #[] #[.pointer (some ⟨w.heap.size, 0, none⟩), .pointer (some ⟨bs, 0, none⟩)], .func (.func 42) #[] #[.pointer (some ⟨w.heap.size, 0, none⟩)], .func (.func 43) #[] #[.pointer (some ⟨w.heap.size, 0, none⟩), .pointer (some ⟨w.heap.size + 1, 0, none⟩)]] 54)).drew w5 → (Ending.returned (.int .i64 r) = .returned (.int .i64 (d.addV x ls).1) ∧ VLeft2 ρ B D V w (d.addV x ls).2.1 (d.addV x ls).2.2 (w5.setCell ⟨V, 4, none⟩ (.bool bq))) := fun ρ5 w5 hv5 m5 => by
          rw [HA.out]
          have hlx : VLeft2 ρ B D V w d' { x with n := if r = 0 then x.n + ls.length else x.n, broken := bq } (w5.setCell ⟨V, 4, none⟩ (.bool bq)) :=
            ⟨ρ5, hv5.setB bq, ((MvV.ofBelow ρ V (bel_call HBW.out (bel_call hb3 hb4))).trans m5).set hv5.role 4 _⟩
          by_cases hr : r = 0
          · have e : ({ x with n := if r = 0 then x.n + ls.length else x.n, broken := bq } : Va) = { x with n := x.n + ls.length, broken := false } := by rw [if_pos hr, ← HBQ.out, decide_eq_false (by simp [hr])]
            rw [e] at hlx
            rw [if_pos hr]
            exact ⟨by rw [hr], hlx⟩
          · have e : ({ x with n := if r = 0 then x.n + ls.length else x.n, broken := bq } : Va) = { x with broken := true } := by rw [if_neg hr, ← HBQ.out, decide_eq_true hr]
            rw [e] at hlx
            rw [if_neg hr]
            exact ⟨rfl, hlx⟩
        have FIN := Lib.hid fin
        clear fin
        have KA := Lib.hid ka2
        clear ka ka2
        go_upto_region 9 with fail
        go_region_held3 (fun W' => W'.cell? ⟨w.heap.size, 0, none⟩ = some (.pointer (some ⟨V, 0, none⟩))) (first | exact s1d | exact s1g | exact t1 | exact t2 | fail)
          (first
          | (go_at_call 31; (with_reducible refine KA.out.mono ?_); rintro e w5 ⟨rfl, hl5⟩; obtain ⟨ρ5, hv5, m5⟩ := hl5; have t1 := cell5 _ _ m5)
          | (go_at_call 39; (with_reducible refine (kept5 _ _ hv5.va).mono ?_); rintro e w6 ⟨rfl, rfl⟩; have t2 : (w5.setCell ⟨V, 4, none⟩ (.bool bq)).cell? ⟨w.heap.size, 0, none⟩ = some (.pointer (some ⟨V, 0, none⟩)) := (World.cell?_of_block (a := ⟨w.heap.size, 0, none⟩) (set_heap hVne)).trans t1))
        all_goals go_wp2
        all_goals go_ret
        all_goals exact FIN.out _ _ hv5 m5
  · by_cases hlt : roomF d < sizeI ls
    · have hA : d.addV x ls = (7, d, x) := by unfold Dk.addV; rw [if_neg (by simp [hm0]), if_pos hlt]
      have hd : decide (roomF d < (sizeI ls : Int)) = true := decide_eq_true hlt
      rw [hd]
      have HA := Lib.hid hA
      clear hlt hA
      go_wp2
      go_ret
      rw [HA.out]
      exact ⟨rfl, HH.out.below (bel_call HBW.out hb3)⟩
    · by_cases h0 : ls.length = 0
      · have hA : d.addV x ls = (0, d, x) := by unfold Dk.addV; rw [if_neg (by simp [hm0]), if_neg hlt, if_pos h0]
        have hd : decide (roomF d < (sizeI ls : Int)) = false := decide_eq_false hlt
        rw [hd]
        have hq : ((ls.length : Int) == 0) = true := by rw [beq_iff_eq]; omega
        have HA := Lib.hid hA
        clear hlt hA h0
        go_wp2
        go_ret
        rw [HA.out]
        exact ⟨rfl, HH.out.below (bel_call HBW.out hb3)⟩
      · have hA : d.addV x ls = if (seqD (addL x ls) d).1 = 0 then (0, (seqD (addL x ls) d).2, { x with n := x.n + ls.length, broken := false }) else ((seqD (addL x ls) d).1, (seqD (addL x ls) d).2, { x with broken := true }) := by unfold Dk.addV; rw [if_neg (by simp [hm0]), if_neg hlt, if_neg h0]
        have hd : decide (roomF d < (sizeI ls : Int)) = false := decide_eq_false hlt
        rw [hd]
        have hq : ((ls.length : Int) == 0) = false := by rw [beq_eq_false_iff_ne]; omega
        have HA := Lib.hid hA
        clear hlt hA h0
        have h3 := HH.out.keep (bel_call HBW.out hb3)
        have hb4 : RowKit.Below w3.heap.size w3 (w3.alloc (.cells #[.func (.func 40) #[] #[.pointer (some ⟨w.heap.size, 0, none⟩), .pointer (some ⟨bs, 0, none⟩)], .func (.func 42) #[] #[.pointer (some ⟨w.heap.size, 0, none⟩)], .func (.func 43) #[] #[.pointer (some ⟨w.heap.size, 0, none⟩), .pointer (some ⟨w.heap.size + 1, 0, none⟩)]] 54)).drew := (bel_alloc (RowKit.Below.refl _ _) _).drew
        have cg : ∀ j, (w3.alloc (.cells #[.func (.func 40) #[] #[.pointer (some ⟨w.heap.size, 0, none⟩), .pointer (some ⟨bs, 0, none⟩)], .func (.func 42) #[] #[.pointer (some ⟨w.heap.size, 0, none⟩)], .func (.func 43) #[] #[.pointer (some ⟨w.heap.size, 0, none⟩), .pointer (some ⟨w.heap.size + 1, 0, none⟩)]] 54)).drew.cell? ⟨w3.heap.size, j, none⟩ = (#[.func (.func 40) #[] #[.pointer (some ⟨w.heap.size, 0, none⟩), .pointer (some ⟨bs, 0, none⟩)], .func (.func 42) #[] #[.pointer (some ⟨w.heap.size, 0, none⟩)], .func (.func 43) #[] #[.pointer (some ⟨w.heap.size, 0, none⟩), .pointer (some ⟨w.heap.size + 1, 0, none⟩)]] : Array Value)[j]? := fun j => cell_of_row _ _ _ _ _ _ (heap_alloc_new _ _)
        have hs3 := (bel_call HBW.out hb3).size
        have ka := addV_all (h3.keep hb4) hz hk hm ls hsz ⟨hn.1, by omega⟩ w.heap.size bs (w.heap.size + 1) w3.heap.size 3 (.slice p2 (sizeI ls) c2) p cap
          ((hb4.cell (block_lt_of_cell s1)).trans s1) ((hb4.cell (block_lt_of_cell s2)).trans s2) (((HROW.out.keep (bel_call hb3 hb4))).rds HH.out.disk.fresh) ((hb4.cell (block_lt_of_cell cl3)).trans cl3)
          (HH.out.disk.fresh _ (Nat.le_refl _)) (HH.out.disk.fresh _ hbs) (HH.out.disk.fresh _ (by omega)) (HH.out.disk.fresh _ hs3) (cg 0) (cg 1) (cg 2)
        have hmf : ∀ (fn : Fn) (first cap : Array Value) (w : World), (Instr.makeFunc fn first cap).run Tryz.prog w = .ok (.func fn first cap) w := fun _ _ _ _ => rfl
        generalize seqD (addL x ls) d = rr at *
        obtain ⟨r, d'⟩ := rr
        dsimp only at ka
        have ka2 : Calls Tryz.prog 31 #[.slice (some ⟨w3.heap.size, 0, none⟩) 3 3] (w3.alloc (.cells #[.func (.func 40) #[] #[.pointer (some ⟨w.heap.size, 0, none⟩), .pointer (some ⟨bs, 0, none⟩)], .func (.func 42) #[] #[.pointer (some ⟨w.heap.size, 0, none⟩)], .func (.func 43) #[] #[.pointer (some ⟨w.heap.size, 0, none⟩), .pointer (some ⟨w.heap.size + 1, 0, none⟩)]] 54)).drew fun e w' => e = .returned (.int .i64 r) ∧ VLeft2 ρ B D V (w3.alloc (.cells #[.func (.func 40) #[] #[.pointer (some ⟨w.heap.size, 0, none⟩), .pointer (some ⟨bs, 0, none⟩)], .func (.func 42) #[] #[.pointer (some ⟨w.heap.size, 0, none⟩)], .func (.func 43) #[] #[.pointer (some ⟨w.heap.size, 0, none⟩), .pointer (some ⟨w.heap.size + 1, 0, none⟩)]] 54)).drew d' { x with n := if r = 0 then x.n + ls.length else x.n } w' := ka.mono fun e w' ⟨he, h0, h1⟩ => ⟨he, by
          by_cases hr : r = 0
          · rw [if_pos hr]; exact h0 hr
          · rw [if_neg hr]; exact h1 hr⟩
        have hr0 := HH.out.disk.fresh w.heap.size (Nat.le_refl _)
        have hVne : w.heap.size ≠ V := fun e => by have := HH.out.role; rw [← e] at this; omega
        have cell5 : ∀ ρ5 w5, MvV ρ ρ5 V (w3.alloc (.cells #[.func (.func 40) #[] #[.pointer (some ⟨w.heap.size, 0, none⟩), .pointer (some ⟨bs, 0, none⟩)], .func (.func 42) #[] #[.pointer (some ⟨w.heap.size, 0, none⟩)], .func (.func 43) #[] #[.pointer (some ⟨w.heap.size, 0, none⟩), .pointer (some ⟨w.heap.size + 1, 0, none⟩)]] 54)).drew w5 → w5.cell? ⟨w.heap.size, 0, none⟩ = some (.pointer (some ⟨V, 0, none⟩)) := fun ρ5 w5 m5 => (World.cell?_of_block (a := ⟨w.heap.size, 0, none⟩) (m5.block w.heap.size (Nat.lt_of_lt_of_le (block_lt_of_cell s1) hb4.size) (.inl hr0))).trans ((hb4.cell (block_lt_of_cell s1)).trans s1)
        have s1d : w3.drew.cell? ⟨w.heap.size, 0, none⟩ = some (.pointer (some ⟨V, 0, none⟩)) := s1
        have s1g : (w3.alloc (.cells #[.func (.func 40) #[] #[.pointer (some ⟨w.heap.size, 0, none⟩), .pointer (some ⟨bs, 0, none⟩)], .func (.func 42) #[] #[.pointer (some ⟨w.heap.size, 0, none⟩)], .func (.func 43) #[] #[.pointer (some ⟨w.heap.size, 0, none⟩), .pointer (some ⟨w.heap.size + 1, 0, none⟩)]] 54)).drew.cell? ⟨w.heap.size, 0, none⟩ = some (.pointer (some ⟨V, 0, none⟩)) := (hb4.cell (block_lt_of_cell s1)).trans s1
        obtain ⟨bq, hbq⟩ : ∃ bq, decide (r ≠ 0) = bq := ⟨_, rfl⟩
        have kept5 : ∀ w5 x5, VaAt w5 V D x5 → Calls Tryz.prog 39 #[.pointer (some ⟨V, 0, none⟩), .int .i64 r] w5 fun e w' => e = .returned (.int .i64 r) ∧ w' = w5.setCell ⟨V, 4, none⟩ (.bool bq) := fun w5 x5 h5 => by rw [← hbq]; exact vkept_c h5 r
        have HBQ := Lib.hid hbq
        clear hbq
        have fin : ∀ ρ5 w5, VD w5 ρ5 B D V d' { x with n := if r = 0 then x.n + ls.length else x.n } → MvV ρ ρ5 V (w3.alloc (.cells #[.func (.func 40) #[] #[.pointer (some ⟨w.heap.size, 0, none⟩), .pointer (some ⟨bs, 0, none⟩)], .func (.func 42) #[] #[.pointer (some ⟨w.heap.size, 0, none⟩)], .func (.func 43) #[] #[.pointer (some ⟨w.heap.size, 0, none⟩), .pointer (some ⟨w.heap.size + 1, 0, none⟩)]] 54)).drew w5 → (Ending.returned (.int .i64 r) = .returned (.int .i64 (d.addV x ls).1) ∧ VLeft2 ρ B D V w (d.addV x ls).2.1 (d.addV x ls).2.2 (w5.setCell ⟨V, 4, none⟩ (.bool bq))) := fun ρ5 w5 hv5 m5 => by
          rw [HA.out]
          have hlx : VLeft2 ρ B D V w d' { x with n := if r = 0 then x.n + ls.length else x.n, broken := bq } (w5.setCell ⟨V, 4, none⟩ (.bool bq)) :=
            ⟨ρ5, hv5.setB bq, ((MvV.ofBelow ρ V (bel_call HBW.out (bel_call hb3 hb4))).trans m5).set hv5.role 4 _⟩
          by_cases hr : r = 0
          · have e : ({ x with n := if r = 0 then x.n + ls.length else x.n, broken := bq } : Va) = { x with n := x.n + ls.length, broken := false } := by rw [if_pos hr, ← HBQ.out, decide_eq_false (by simp [hr])]
            rw [e] at hlx
            rw [if_pos hr]
            exact ⟨by rw [hr], hlx⟩
          · have e : ({ x with n := if r = 0 then x.n + ls.length else x.n, broken := bq } : Va) = { x with broken := true } := by rw [if_neg hr, ← HBQ.out, decide_eq_true hr]
            rw [e] at hlx
            rw [if_neg hr]
            exact ⟨rfl, hlx⟩
        have FIN := Lib.hid fin
        clear fin
        have KA := Lib.hid ka2
        clear ka ka2
        go_upto_region 9 with fail
        go_region_held3 (fun W' => W'.cell? ⟨w.heap.size, 0, none⟩ = some (.pointer (some ⟨V, 0, none⟩))) (first | exact s1d | exact s1g | exact t1 | exact t2 | fail)
          (first
          | (go_at_call 31; (with_reducible refine KA.out.mono ?_); rintro e w5 ⟨rfl, hl5⟩; obtain ⟨ρ5, hv5, m5⟩ := hl5; have t1 := cell5 _ _ m5)
          | (go_at_call 39; (with_reducible refine (kept5 _ _ hv5.va).mono ?_); rintro e w6 ⟨rfl, rfl⟩; have t2 : (w5.setCell ⟨V, 4, none⟩ (.bool bq)).cell? ⟨w.heap.size, 0, none⟩ = some (.pointer (some ⟨V, 0, none⟩)) := (World.cell?_of_block (a := ⟨w.heap.size, 0, none⟩) (set_heap hVne)).trans t1))
        all_goals go_wp2
        all_goals go_ret
        all_goals exact FIN.out _ _ hv5 m5

theorem add_all_c {w : World} {ρ : Nat → Nat} {B D V : Nat} {d : Dk} {x : Va} {k m : Nat} (h : VD w ρ B D V d x) (hz : DSz d k m) (hk : k ≤ 900000) (hm : m ≤ 9000000) (ht : KTab w) (v : Value) (ls : List (List Int)) (hv : RdL w v ls) (hlb : ∀ r ∈ ls, Bytes r) (hsz : sizeI ls ≤ 10000000) (hln : ls.length ≤ 250000) (hn : 0 ≤ x.n ∧ x.n ≤ 1000000) :
    Calls Tryz.prog 14 #[.pointer (some ⟨V, 0, none⟩), v] w fun e w' => e = .returned (.int .i64 (d.addV x ls).1) ∧ VLeft2 ρ B D V w (d.addV x ls).2.1 (d.addV x ls).2.2 w' := by
  by_cases hm0 : vmayv x.broken ls = 0
  · exact add_ok h hz hk hm ht v ls hv hlb hsz hln hn hm0
  · have hA : d.addV x ls = (vmayv x.broken ls, d, x) := by unfold Dk.addV; rw [if_pos hm0]
    rw [hA]
    exact add_no h v ls hv hln hm0
end Go.Proofs.YtfohemgfiidokaaGreatDoor
namespace Go.Proofs.YtfohemgfiidokaaGreatDoor
open Go.RowKit Go.Sort

set_option maxRecDepth 100000 in
theorem comp1_c {w : World} {ρ : Nat → Nat} {B D V : Nat} {d : Dk} {x : Va} (h : VD w ρ B D V d x) (ok : DOk d) (b b2 : Nat) (o : Int) (rb : ρ b = 0) (rb2 : ρ b2 = 0) (cb : w.cell? ⟨b, 0, none⟩ = some (.pointer (some ⟨V, 0, none⟩))) (c2 : w.cell? ⟨b2, 0, none⟩ = some (.int .i64 o)) :
    Calls Tryz.prog 48 #[.pointer (some ⟨b, 0, none⟩), .pointer (some ⟨b2, 0, none⟩)] w fun e w' => e = .returned (.int .i64 (d.vcut o 0).1) ∧ Left ρ B D w (d.vcut o 0).2 w' := by
  have hbd := (RowKit.Below.refl w.heap.size w).drew
  have hc := vcut_c (h.disk.keep hbd) ok o 0
  have hV4 : 3 < ρ V := by rw [h.role]; omega
  have e1 := h.va.d
  have cbd : w.drew.cell? ⟨b, 0, none⟩ = some (.pointer (some ⟨V, 0, none⟩)) := cb
  have e1d : w.drew.cell? ⟨V, 0, none⟩ = some (.pointer (some ⟨D, 0, none⟩)) := e1
  have c2d : w.drew.cell? ⟨b2, 0, none⟩ = some (.int .i64 o) := c2
  generalize d.vcut o 0 = r at *
  go_enter Tryz.func48, Tryz.ntmps48
  go_upto_region 1 with fail
  go_region_held3 (fun V' => V'.cell? ⟨b, 0, none⟩ = some (.pointer (some ⟨V, 0, none⟩)) ∧ V'.cell? ⟨V, 0, none⟩ = some (.pointer (some ⟨D, 0, none⟩)) ∧ V'.cell? ⟨b2, 0, none⟩ = some (.int .i64 o)) (go_keep) (first | (go_at_call 33; (with_reducible refine hc.mono ?_); rintro e w1 ⟨rfl, hl⟩; have q1 := hl.cell cbd (.inl rb); have q2 := hl.cell e1d (.inr hV4); have q4 := hl.cell c2d (.inl rb2)))
  all_goals go_wp2
  all_goals go_ret
  all_goals exact ⟨rfl, Left.after hbd hl⟩
set_option maxRecDepth 100000 in
theorem comp2_c {w : World} {ρ : Nat → Nat} {B D V : Nat} {d : Dk} {x : Va} (h : VD w ρ B D V d x) (ok : DOk d) (b b2 b3 : Nat) (o : Int) (v : Value) (s : List Int) (rb : ρ b = 0) (rb2 : ρ b2 = 0) (rb3 : ρ b3 = 0) (cb : w.cell? ⟨b, 0, none⟩ = some (.pointer (some ⟨V, 0, none⟩))) (c2 : w.cell? ⟨b2, 0, none⟩ = some (.int .i64 o)) (c3 : w.cell? ⟨b3, 0, none⟩ = some v) (hv : RdS w ρ v s) (hs : s.length ≤ 100000000) :
    Calls Tryz.prog 49 #[.pointer (some ⟨b, 0, none⟩), .pointer (some ⟨b2, 0, none⟩), .pointer (some ⟨b3, 0, none⟩)] w fun e w' => e = .returned (.int .i64 (d.write o s).1) ∧ Left ρ B D w (d.write o s).2 w' := by
  have hbd := (RowKit.Below.refl w.heap.size w).drew
  have hc := write_any (h.disk.keep hbd) ok o v s (hv.mv (Mv.drew ρ w)) (by omega)
  obtain ⟨p, cp, rfl⟩ := hv.shape
  have hV4 : 3 < ρ V := by rw [h.role]; omega
  have e1 := h.va.d
  have cbd : w.drew.cell? ⟨b, 0, none⟩ = some (.pointer (some ⟨V, 0, none⟩)) := cb
  have e1d : w.drew.cell? ⟨V, 0, none⟩ = some (.pointer (some ⟨D, 0, none⟩)) := e1
  have c2d : w.drew.cell? ⟨b2, 0, none⟩ = some (.int .i64 o) := c2
  have c3d : w.drew.cell? ⟨b3, 0, none⟩ = some (.slice p s.length cp) := c3
  generalize d.write o s = r at *
  go_enter Tryz.func49, Tryz.ntmps49
  go_upto_region 1 with fail
  go_region_held3 (fun V' => V'.cell? ⟨b, 0, none⟩ = some (.pointer (some ⟨V, 0, none⟩)) ∧ V'.cell? ⟨V, 0, none⟩ = some (.pointer (some ⟨D, 0, none⟩)) ∧ V'.cell? ⟨b2, 0, none⟩ = some (.int .i64 o) ∧ V'.cell? ⟨b3, 0, none⟩ = some (.slice p s.length cp)) (go_keep) (first | (go_at_call 41; (with_reducible refine hc.mono ?_); rintro e w1 ⟨rfl, hl⟩; have q1 := hl.cell cbd (.inl rb); have q2 := hl.cell e1d (.inr hV4); have q4 := hl.cell c2d (.inl rb2); have q5 := hl.cell c3d (.inl rb3)))
  all_goals go_wp2
  all_goals go_ret
  all_goals exact ⟨rfl, Left.after hbd hl⟩
set_option maxRecDepth 100000 in
theorem comp3_c {w : World} {ρ : Nat → Nat} {B D V : Nat} {d : Dk} {x : Va} (h : VD w ρ B D V d x) (ok : DOk d) (b b2 : Nat) (o : Int) (rb : ρ b = 0) (rb2 : ρ b2 = 0) (cb : w.cell? ⟨b, 0, none⟩ = some (.pointer (some ⟨V, 0, none⟩))) (c2 : w.cell? ⟨b2, 0, none⟩ = some (.int .i64 o)) :
    Calls Tryz.prog 50 #[.pointer (some ⟨b, 0, none⟩), .pointer (some ⟨b2, 0, none⟩)] w fun e w' => e = .returned (.int .i64 (d.sync o).1) ∧ Left ρ B D w (d.sync o).2 w' := by
  have hbd := (RowKit.Below.refl w.heap.size w).drew
  have hc := sync_any (h.disk.keep hbd) ok o
  have hV4 : 3 < ρ V := by rw [h.role]; omega
  have e1 := h.va.d
  have cbd : w.drew.cell? ⟨b, 0, none⟩ = some (.pointer (some ⟨V, 0, none⟩)) := cb
  have e1d : w.drew.cell? ⟨V, 0, none⟩ = some (.pointer (some ⟨D, 0, none⟩)) := e1
  have c2d : w.drew.cell? ⟨b2, 0, none⟩ = some (.int .i64 o) := c2
  generalize d.sync o = r at *
  go_enter Tryz.func50, Tryz.ntmps50
  go_upto_region 1 with fail
  go_region_held3 (fun V' => V'.cell? ⟨b, 0, none⟩ = some (.pointer (some ⟨V, 0, none⟩)) ∧ V'.cell? ⟨V, 0, none⟩ = some (.pointer (some ⟨D, 0, none⟩)) ∧ V'.cell? ⟨b2, 0, none⟩ = some (.int .i64 o)) (go_keep) (first | (go_at_call 35; (with_reducible refine hc.mono ?_); rintro e w1 ⟨rfl, hl⟩; have q1 := hl.cell cbd (.inl rb); have q2 := hl.cell e1d (.inr hV4); have q4 := hl.cell c2d (.inl rb2)))
  all_goals go_wp2
  all_goals go_ret
  all_goals exact ⟨rfl, Left.after hbd hl⟩
set_option maxRecDepth 100000 in
theorem comp4_c {w : World} {ρ : Nat → Nat} {B D V : Nat} {d : Dk} {x : Va} (h : VD w ρ B D V d x) (ok : DOk d) (b : Nat) (rb : ρ b = 0) (cb : w.cell? ⟨b, 0, none⟩ = some (.pointer (some ⟨V, 0, none⟩))) :
    Calls Tryz.prog 51 #[.pointer (some ⟨b, 0, none⟩)] w fun e w' => e = .returned (.int .i64 (d.cut x.file 0).1) ∧ Left ρ B D w (d.cut x.file 0).2 w' := by
  have hbd := (RowKit.Below.refl w.heap.size w).drew
  have hc := cut_any (h.disk.keep hbd) ok x.file 0
  have hV4 : 3 < ρ V := by rw [h.role]; omega
  have e1 := h.va.d
  have e2 := h.va.file
  have cbd : w.drew.cell? ⟨b, 0, none⟩ = some (.pointer (some ⟨V, 0, none⟩)) := cb
  have e1d : w.drew.cell? ⟨V, 0, none⟩ = some (.pointer (some ⟨D, 0, none⟩)) := e1
  have e2d : w.drew.cell? ⟨V, 1, none⟩ = some (.int .i64 x.file) := e2
  generalize d.cut x.file 0 = r at *
  go_enter Tryz.func51, Tryz.ntmps51
  go_upto_region 1 with fail
  go_region_held3 (fun V' => V'.cell? ⟨b, 0, none⟩ = some (.pointer (some ⟨V, 0, none⟩)) ∧ V'.cell? ⟨V, 0, none⟩ = some (.pointer (some ⟨D, 0, none⟩)) ∧ V'.cell? ⟨V, 1, none⟩ = some (.int .i64 x.file)) (go_keep) (first | (go_at_call 52; (with_reducible refine hc.mono ?_); rintro e w1 ⟨rfl, hl⟩; have q1 := hl.cell cbd (.inl rb); have q2 := hl.cell e1d (.inr hV4); have q4 := hl.cell e2d (.inr hV4)))
  all_goals go_wp2
  all_goals go_ret
  all_goals exact ⟨rfl, Left.after hbd hl⟩
set_option maxRecDepth 100000 in
set_option maxHeartbeats 3200000 in
theorem comp5_c {w : World} {D V : Nat} {x : Va} (h : VaAt w V D x) (b b2 b3 : Nat) (o : Int) (p : Option Addr) (n cap : Nat) (cb : w.cell? ⟨b, 0, none⟩ = some (.pointer (some ⟨V, 0, none⟩))) (c2 : w.cell? ⟨b2, 0, none⟩ = some (.int .i64 o)) (c3 : w.cell? ⟨b3, 0, none⟩ = some (.slice p n cap)) (hg : 0 ≤ x.gen ∧ x.gen ≤ 4611686018427387904) :
    Calls Tryz.prog 53 #[.pointer (some ⟨b2, 0, none⟩), .pointer (some ⟨b, 0, none⟩), .pointer (some ⟨b3, 0, none⟩)] w fun e w' => e = .returned (.int .i64 0) ∧ w' = (((w.setCell ⟨V, 1, none⟩ (.int .i64 o)).setCell ⟨V, 2, none⟩ (.int .u64 (x.gen + 1))).setCell ⟨V, 3, none⟩ (.int .i64 n)).drew := by
  have e1 := h.file
  have e2 := h.gen
  have e3 := h.n
  have z := h.fz
  have hw : IntKind.u64.wrap (x.gen + 1) = x.gen + 1 := by rw [IntKind.wrap_u64]; omega
  go_enter Tryz.func53, Tryz.ntmps53
  go_upto_region 1 with fail
  go_region
  all_goals go_wp2
  all_goals go_ret
  all_goals exact ⟨rfl, rfl⟩

theorem compS_len (x : Va) (ls : List (List Int)) : (compS x ls).length = 44 + sizeI ls := by rw [compS, List.length_append, headI_len, framesI_len]

theorem compV_all {w : World} {ρ : Nat → Nat} {B D V : Nat} {d : Dk} {x : Va} {k m : Nat} (h : VD w ρ B D V d x) (hz : DSz d k m) (hk : k ≤ 900000) (hm : m ≤ 9000000) (hf : x.file < 2) (ls : List (List Int)) (hsz : sizeI ls ≤ 10000000) (hg : 0 ≤ x.gen ∧ x.gen ≤ 4611686018427387904) (b b2 b3 b4 g cap : Nat) (sv : Value) (p : Option Addr) (lc : Nat)
    (cb : w.cell? ⟨b, 0, none⟩ = some (.pointer (some ⟨V, 0, none⟩))) (c2 : w.cell? ⟨b2, 0, none⟩ = some (.int .i64 (1 - x.file))) (c3 : w.cell? ⟨b3, 0, none⟩ = some sv) (hsv : RdS w ρ sv (compS x ls)) (c4 : w.cell? ⟨b4, 0, none⟩ = some (.slice p ls.length lc)) (rb : ρ b = 0) (rb2 : ρ b2 = 0) (rb3 : ρ b3 = 0) (rb4 : ρ b4 = 0) (rg : ρ g = 0)
    (f0 : w.cell? ⟨g, 0, none⟩ = some (.func (.func 48) #[] #[.pointer (some ⟨b, 0, none⟩), .pointer (some ⟨b2, 0, none⟩)])) (f1 : w.cell? ⟨g, 1, none⟩ = some (.func (.func 49) #[] #[.pointer (some ⟨b, 0, none⟩), .pointer (some ⟨b2, 0, none⟩), .pointer (some ⟨b3, 0, none⟩)]))
    (f2 : w.cell? ⟨g, 2, none⟩ = some (.func (.func 50) #[] #[.pointer (some ⟨b, 0, none⟩), .pointer (some ⟨b2, 0, none⟩)])) (f3 : w.cell? ⟨g, 3, none⟩ = some (.func (.func 51) #[] #[.pointer (some ⟨b, 0, none⟩)]))
    (f4 : w.cell? ⟨g, 4, none⟩ = some (.func (.func 53) #[] #[.pointer (some ⟨b2, 0, none⟩), .pointer (some ⟨b, 0, none⟩), .pointer (some ⟨b4, 0, none⟩)])) :
    Calls Tryz.prog 31 #[.slice (some ⟨g, 0, none⟩) 5 cap] w fun e w' => e = .returned (.int .i64 (seqD (compL x ls) d).1) ∧ ((seqD (compL x ls) d).1 = 0 → VLeft2 ρ B D V w (seqD (compL x ls) d).2 ⟨1 - x.file, x.gen + 1, ls.length, x.broken⟩ w') ∧ ((seqD (compL x ls) d).1 ≠ 0 → VLeft2 ρ B D V w (seqD (compL x ls) d).2 x w') := by
  have hll := len_le_size ls
  have hfl := compS_len x ls
  let J : Nat → World → Prop := fun i W => if i < 5 then ∃ di, seqD (compL x ls) d = seqD ((compL x ls).drop i) di ∧ DSz di (k + i) (m + (44 + sizeI ls) * i) ∧ Left ρ B D w di W else (seqD (compL x ls) d).1 = 0 ∧ VLeft2 ρ B D V w (seqD (compL x ls) d).2 ⟨1 - x.file, x.gen + 1, ls.length, x.broken⟩ W
  let E : Int → World → Prop := fun r W => (seqD (compL x ls) d).1 = r ∧ VLeft2 ρ B D V w (seqD (compL x ls) d).2 x W
  have jd : ∀ i W, i < 5 → J i W → ∃ di, seqD (compL x ls) d = seqD ((compL x ls).drop i) di ∧ DSz di (k + i) (m + (44 + sizeI ls) * i) ∧ Left ρ B D w di W := fun i W hi hJ => by simpa only [J, if_pos hi] using hJ
  have cell : ∀ (a : Nat) (o : Nat) (v : Value), w.cell? ⟨a, o, none⟩ = some v → ρ a = 0 → ∀ i W, i < 5 → J i W → W.cell? ⟨a, o, none⟩ = some v := fun a o v hc hra i W hi hJ => by
    obtain ⟨di, -, -, hl⟩ := jd i W hi hJ
    exact hl.cell hc (.inl hra)
  have step : ∀ (i : Nat) (fn : Dk → Int × Dk) (n : Nat) (args : Array Value) (W : World), i < 4 → (compL x ls).drop i = fn :: (compL x ls).drop (i + 1) → (∀ di, DSz di (k + i) (m + (44 + sizeI ls) * i) → DSz (fn di).2 (k + (i + 1)) (m + (44 + sizeI ls) * (i + 1))) → J i W →
      (∀ ρ' di, VD W ρ' B D V di x → Mv ρ ρ' w W → DOk di → Calls Tryz.prog n args W fun e w' => e = .returned (.int .i64 (fn di).1) ∧ Left ρ' B D W (fn di).2 w') →
      Calls Tryz.prog n args W fun e W' => ∃ r, e = .returned (.int .i64 r) ∧ (r = 0 → J (i + 1) W') ∧ (r ≠ 0 → E r W') := fun i fn n args W hi hd hf hJ hc => by
    obtain ⟨di, hs, hsz', ρ', h1, m1⟩ := jd i W (by omega) hJ
    have hm2 : (44 + sizeI ls) * i ≤ 10000044 * 4 := Nat.mul_le_mul (by omega) (show i ≤ 4 by omega)
    refine (hc ρ' di ⟨h1, h.va.mv m1 h.role, (m1.role V h.va.lt).trans h.role⟩ m1 (hsz'.ok (by omega) (by omega))).mono fun e w' ⟨he, ρ'', h2, m2⟩ => ⟨_, he, fun hz0 => ?_, fun hnz => ?_⟩
    · show J (i + 1) w'
      simp only [J, if_pos (show i + 1 < 5 by omega)]
      exact ⟨(fn di).2, by rw [hs, hd, seqD_zero hz0], hf di hsz', ρ'', h2, m1.trans m2⟩
    · have e2 : seqD (compL x ls) d = fn di := by rw [hs, hd, seqD_ne hnz]
      exact ⟨by rw [e2], by rw [e2]; exact h.left ⟨ρ'', h2, m1.trans m2⟩⟩
  have js : ∀ i W, i < 5 → J i W → W.cell? ⟨b, 0, none⟩ = some (.pointer (some ⟨V, 0, none⟩)) := fun i W hi hJ => cell b 0 _ cb rb i W hi hJ
  have jo : ∀ i W, i < 5 → J i W → W.cell? ⟨b2, 0, none⟩ = some (.int .i64 (1 - x.file)) := fun i W hi hJ => cell b2 0 _ c2 rb2 i W hi hJ
  have r1 : ∀ {ρ' W}, Mv ρ ρ' w W → ρ' b = 0 := fun m1 => (m1.role b (block_lt_of_cell cb)).trans rb
  have r2 : ∀ {ρ' W}, Mv ρ ρ' w W → ρ' b2 = 0 := fun m1 => (m1.role b2 (block_lt_of_cell c2)).trans rb2
  refine (all_comp g cap (.pointer (some ⟨b, 0, none⟩)) (.pointer (some ⟨b2, 0, none⟩)) (.pointer (some ⟨b3, 0, none⟩)) (.pointer (some ⟨b4, 0, none⟩)) w J E
    (fun W hJ => cell g 0 _ f0 rg 0 W (by omega) hJ) (fun W hJ => step 0 _ _ _ W (by omega) rfl (fun di hd => (hd.vcut (1 - x.file) 0).up (by omega) (by omega)) hJ fun ρ' di h1 m1 ok => comp1_c h1 ok b b2 _ (r1 m1) (r2 m1) (js 0 W (by omega) hJ) (jo 0 W (by omega) hJ))
    (fun W hJ => cell g 1 _ f1 rg 1 W (by omega) hJ) (fun W hJ => step 1 _ _ _ W (by omega) rfl (fun di hd => by
      have := hd.write (1 - x.file) (compS x ls); rw [hfl] at this; exact this.up (by omega) (by omega)) hJ fun ρ' di h1 m1 ok => comp2_c h1 ok b b2 b3 _ sv _ (r1 m1) (r2 m1) ((m1.role b3 (block_lt_of_cell c3)).trans rb3) (js 1 W (by omega) hJ) (jo 1 W (by omega) hJ) (cell b3 0 _ c3 rb3 1 W (by omega) hJ) (hsv.mv m1) (by rw [hfl]; omega))
    (fun W hJ => cell g 2 _ f2 rg 2 W (by omega) hJ) (fun W hJ => step 2 _ _ _ W (by omega) rfl (fun di hd => (hd.sync (1 - x.file)).up (by omega) (by omega)) hJ fun ρ' di h1 m1 ok => comp3_c h1 ok b b2 _ (r1 m1) (r2 m1) (js 2 W (by omega) hJ) (jo 2 W (by omega) hJ))
    (fun W hJ => cell g 3 _ f3 rg 3 W (by omega) hJ) (fun W hJ => step 3 _ _ _ W (by omega) rfl (fun di hd => (hd.cut x.file 0).up (by omega) (by omega)) hJ fun ρ' di h1 m1 ok => comp4_c h1 ok b (r1 m1) (js 3 W (by omega) hJ))
    (fun W hJ => cell g 4 _ f4 rg 4 W (by omega) hJ) (fun W hJ => ?_)
    (by
      show J 0 w
      simp only [J, if_pos (show 0 < 5 by omega)]
      exact ⟨d, rfl, hz.up (by omega) (by omega), ρ, h.disk, Mv.refl ρ w⟩)).mono fun e w' ⟨r, he, hz0, hnz⟩ => ?_
  · obtain ⟨di, hs, -, ρ', h1, m1⟩ := jd 4 W (by omega) hJ
    have hv : VD W ρ' B D V di x := ⟨h1, h.va.mv m1 h.role, (m1.role V h.va.lt).trans h.role⟩
    refine (comp5_c hv.va b b2 b4 (1 - x.file) p ls.length lc (js 4 W (by omega) hJ) (jo 4 W (by omega) hJ) (cell b4 0 _ c4 rb4 4 W (by omega) hJ) hg).mono fun e w' ⟨he, hw⟩ => ⟨0, he, fun _ => ?_, fun e => absurd rfl e⟩
    show J 5 w'
    have e2 : seqD (compL x ls) d = (0, di) := hs
    simp only [J, if_neg (show ¬ 5 < 5 by omega)]
    rw [e2, hw]
    have hfc : ((1 - x.file : Nat) : Int) = 1 - (x.file : Int) := by omega
    have hv1 : VD (W.setCell ⟨V, 1, none⟩ (.int .i64 (1 - (x.file : Int)))) ρ' B D V di { x with file := 1 - x.file } := ⟨h1.setV hv.role 1 _, by rw [← hfc]; exact hv.va.setFile (1 - x.file), hv.role⟩
    have hv2 : VD ((W.setCell ⟨V, 1, none⟩ (.int .i64 (1 - (x.file : Int)))).setCell ⟨V, 2, none⟩ (.int .u64 (x.gen + 1))) ρ' B D V di { x with file := 1 - x.file, gen := x.gen + 1 } := ⟨hv1.disk.setV hv.role 2 _, hv1.va.setGen _, hv.role⟩
    exact ⟨rfl, ρ', (hv2.setN _).drewn, (((((m1.v V).set hv.role 1 _).set hv.role 2 _).set hv.role 3 _).trans (MvV.drew ρ' V _))⟩
  · subst he
    by_cases hr0 : r = 0
    · have hJ3 : (seqD (compL x ls) d).1 = 0 ∧ VLeft2 ρ B D V w (seqD (compL x ls) d).2 ⟨1 - x.file, x.gen + 1, ls.length, x.broken⟩ w' := by simpa only [J, if_neg (show ¬ 5 < 5 by omega)] using hz0 hr0
      exact ⟨by rw [hr0, hJ3.1], fun _ => hJ3.2, fun e => absurd hJ3.1 e⟩
    · obtain ⟨e1, hl⟩ := hnz hr0
      exact ⟨by rw [e1], fun e => absurd (e1.symm.trans e) hr0, fun _ => hl⟩
end Go.Proofs.YtfohemgfiidokaaGreatDoor
