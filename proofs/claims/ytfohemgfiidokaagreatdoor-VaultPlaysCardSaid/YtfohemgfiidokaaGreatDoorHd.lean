/- The document's Open of a disk that is on, alike with the program's. -/
import Derived.Test.YtfohemgfiidokaaGreatDoorHz
namespace Go.Proofs.YtfohemgfiidokaaGreatDoor
open Go.RowKit Go.Sort

def gO : Option (Int × List (List Int)) → Int
  | none => 0
  | some (g, _) => g
def lO : Option (Int × List (List Int)) → List (List Int)
  | none => []
  | some (_, l) => l
def sO : Option (Int × List (List Int)) → Nat
  | none => 0
  | some (_, l) => 44 + sizeI l
/-- what is found: a generation of its own range -/
def OkO (o : Option (Int × List (List Int))) : Prop := ∀ g l, o = some (g, l) → 1 ≤ g ∧ g ≤ 4611686018427387904
theorem okO (f : Int) (b : List Int) : OkO (lookI f b) := fun _ _ h => ⟨(look_some h).2.2.2.1, (look_some h).2.2.2.2.1⟩
theorem gO_ge {o : Option (Int × List (List Int))} (h : OkO o) : 0 ≤ gO o ∧ gO o ≤ 4611686018427387904 := by
  rcases o with _ | ⟨g, l⟩
  · exact ⟨Int.le_refl _, by decide⟩
  · obtain ⟨h1, h2⟩ := h g l rfl
    exact ⟨by show 0 ≤ g; omega, h2⟩
theorem gO_some {o : Option (Int × List (List Int))} (h : gO o ≠ 0) : o = some (gO o, lO o) ∧ sO o = 44 + sizeI (lO o) := by
  rcases o with _ | ⟨g, l⟩
  · exact absurd rfl h
  · exact ⟨rfl, rfl⟩
theorem upd_pos {b : Option (Nat × Int × List (List Int))} {f : Nat} {g : Int} {l : List (List Int)} (h : genO b < g) : updI b f (some (g, l)) = some (f, g, l) := if_pos h
theorem upd_neg {b : Option (Nat × Int × List (List Int))} {f : Nat} {g : Int} {l : List (List Int)} (h : ¬ genO b < g) : updI b f (some (g, l)) = b := if_neg h
theorem best_no {o0 o1 : Option (Int × List (List Int))} (h0 : OkO o0) (h1 : OkO o1) (e0 : gO o0 = 0) (e1 : gO o1 = 0) : updI (updI none 0 o0) 1 o1 = none := by
  rcases o0 with _ | ⟨g, l⟩
  · rcases o1 with _ | ⟨g, l⟩
    · rfl
    · have := h1 g l rfl; have e : g = 0 := e1; omega
  · have := h0 g l rfl; have e : g = 0 := e0; omega
theorem best_lo {o0 o1 : Option (Int × List (List Int))} (e0 : gO o0 ≠ 0) (h0 : OkO o0) (hle : ¬ gO o0 < gO o1) : updI (updI none 0 o0) 1 o1 = some (0, gO o0, lO o0) := by
  rcases o0 with _ | ⟨g, l⟩
  · exact absurd rfl e0
  · have hg := h0 g l rfl
    rw [upd_pos (show (0 : Int) < g by omega)]
    rcases o1 with _ | ⟨g1, l1⟩
    · rfl
    · exact upd_neg hle
theorem best_hi {o0 o1 : Option (Int × List (List Int))} (h0 : OkO o0) (hlt : gO o0 < gO o1) : updI (updI none 0 o0) 1 o1 = some (1, gO o1, lO o1) := by
  have hp := (gO_ge h0).1
  rcases o1 with _ | ⟨g1, l1⟩
  · exact absurd hlt (by show ¬ gO o0 < 0; omega)
  · have hlt' : gO o0 < g1 := hlt
    rcases o0 with _ | ⟨g, l⟩
    · exact upd_pos (show (0 : Int) < g1 by omega)
    · have hg := h0 g l rfl
      rw [upd_pos (b := none) (f := 0) (l := l) (show (0 : Int) < g by omega)]
      exact upd_pos hlt'
theorem FrT.shape {w : World} {B : Nat} {v : Value} {ls : List (List Int)} (h : FrT w B v ls) : ∃ p cap, v = .slice p ls.length cap := by
  obtain ⟨vs, ⟨h1, h2⟩, h3⟩ := h
  rcases h2 with ⟨rfl, h2⟩ | ⟨g, cap, cur, rfl, q1, q2, q3, q4, q5, q6⟩
  · exact ⟨none, 0, by rw [h2]⟩
  · exact ⟨_, _, rfl⟩
section
variable {w : World} {ρ : Nat → Nat} {R : Nat} {d : Dk} {r : Rk} {k m : Nat}
theorem rsound_rd (hr : Rel d r k m) (hm : m ≤ 1000000) (F : Int) (f : Nat) (hb : Bytes (d.file f).stands) (W : World) (hf : ∀ g, W.heap.size ≤ g → ρ g = 0) : Calls Tryz.prog 54 #[.string (strOfNums (d.file f).stands), .int .i64 F] W fun e w' =>
    ∃ p cap, e = .returned (.tuple #[.int .u64 (gO (lookI F (d.file f).stands)), .slice p (lO (lookI F (d.file f).stands)).length cap, .int .i64 (sO (lookI F (d.file f).stands))]) ∧ RdLS w' ρ (.slice p (lO (lookI F (d.file f).stands)).length cap) (lO (lookI F (d.file f).stands)) ∧ Below W.heap.size W w' := by
  refine (rsound_st hr hm F f hb W).mono fun e w' ⟨hs, hbl⟩ => ?_
  unfold SoundT at hs
  generalize lookI F (d.file f).stands = o at *
  rcases o with _ | ⟨g, l⟩
  · exact ⟨none, 0, hs, .inl ⟨rfl, rfl⟩, hbl⟩
  · obtain ⟨v, rfl, hfr⟩ := hs
    obtain ⟨p, cap, rfl⟩ := hfr.shape
    exact ⟨p, cap, rfl, hfr.rdls hf, hbl⟩
theorem RdLS.below {w w' : World} {v : Value} {ls : List (List Int)} (h : RdLS w ρ v ls) (hb : Below w.heap.size w w') : RdLS w' ρ v ls := h.mr (Mr.ofBelow ρ hb)
set_option maxRecDepth 100000 in
set_option maxHeartbeats 4000000 in
theorem rv_open_no (h : RefAt w ρ R r) (hr : Rel d r k m) (hk : k ≤ 90000) (hm : m ≤ 900000) (hoff : d.off = false) (hby : DBy d) (g0 : gO (lookI 0 (d.file 0).stands) = 0) (g1 : gO (lookI 1 (d.file 1).stands) = 0) : Calls Tryz.prog 22 #[.pointer (some ⟨R, 0, none⟩)] w fun e w' => RO ρ R w d.openV (k + 3) (m + 44) e w' := by
  have hz0 := hr.z 0
  have hz1 := hr.z 1
  have hb0 := hby.stands 0
  have hb1 := hby.stands 1
  have HRD := Lib.hid (rread_st h hr (by omega) (by omega) hoff)
  have hs0 := fun W (a : RefAt W ρ R r) => rv_stands a hr (by omega) (by omega) 0 0 (by omega) rfl
  have hs1 := fun W (a : RefAt W ρ R r) => rv_stands a hr (by omega) (by omega) 1 1 (by omega) rfl
  have hd0 := fun W (hf : ∀ g, W.heap.size ≤ g → ρ g = 0) => rsound_rd hr (by omega) 0 0 hb0 W hf
  have hd1 := fun W (hf : ∀ g, W.heap.size ≤ g → ρ g = 0) => rsound_rd hr (by omega) 1 1 hb1 W hf
  have hbn : bestN d 2 = updI (updI none 0 (lookI 0 (d.file 0).stands)) 1 (lookI 1 (d.file 1).stands) := rfl
  have hop : d.openV = match bestN d 2 with
    | none => if d.begin.1 = 0 then (0, d.begin.2, some (⟨1, 1, 0, false⟩, [])) else (d.begin.1, d.begin.2, none)
    | some (f, g, ls) => if (seqD (openL f (44 + sizeI ls)) d).1 = 0 then (0, (seqD (openL f (44 + sizeI ls)) d).2, some (⟨f, g, ls.length, false⟩, ls)) else ((seqD (openL f (44 + sizeI ls)) d).1, (seqD (openL f (44 + sizeI ls)) d).2, none) := by
    unfold Dk.openV; rw [if_neg (by rw [hoff]; simp)]; rfl
  rw [hbn] at hop
  clear hbn
  have ok0 := okO 0 (d.file 0).stands
  have ok1 := okO 1 (d.file 1).stands
  generalize lookI 0 (d.file 0).stands = o0 at *
  generalize lookI 1 (d.file 1).stands = o1 at *
  generalize strOfNums (d.file 0).stands = t0 at *
  generalize strOfNums (d.file 1).stands = t1 at *
  rw [best_no ok0 ok1 g0 g1] at hop
  simp only at hop
  have kb := fun W (a : RefAt W ρ R r) => rv_begin a hr (by omega) (by omega) hoff
  rw [hop]
  generalize d.begin = q at *
  obtain ⟨c, d1⟩ := q
  simp only at *
  have HS0 := Lib.hid hs0; have HS1 := Lib.hid hs1; have HD0 := Lib.hid hd0; have HD1 := Lib.hid hd1
  rw [g0] at HD0
  rw [g1] at HD1
  clear hs0 hs1 hd0 hd1 hb0 hb1 hz0 hz1 hop ok0 ok1 g0 g1 hr hoff hby
  by_cases z : c = 0
  · have HB := Lib.hid (fun W (a : RefAt W ρ R r) => (kb W a).mono fun e w' hrb => (hrb.resolve_left fun h => h.1 z).2)
    rw [if_pos z]
    clear kb z
    go_enter Tryz.func22, Tryz.ntmps22
    go_wp2_with (first
      | (go_at_call 25; go_loud ((with_reducible refine HRD.out.mono ?_); rintro e w1 ⟨p1, n1, q1, rfl, b1⟩; have a1 := h.keep b1))
      | (go_at_call 55; (with_reducible refine (HS0.out _ a1).mono ?_); rintro e w2 ⟨rfl, m2, rfl⟩; have a2 := a1.keepN m2; have b2 := bel_call b1 (below_drewN w1 m2))
      | (go_at_call 54; (with_reducible refine (HD0.out _ a2.fresh).mono ?_); rintro e w3 ⟨p0, cap0, rfl, f0, b3⟩; have a3 := a2.keep b3; have b3 := bel_call b2 b3)
      | (go_at_call 55; (with_reducible refine (HS1.out _ a3).mono ?_); rintro e w4 ⟨rfl, m4, rfl⟩; have a4 := a3.keepN m4; have b4 := bel_call b3 (below_drewN w3 m4); have f0 := f0.below (below_drewN w3 m4))
      | (go_at_call 54; (with_reducible refine (HD1.out _ a4.fresh).mono ?_); rintro e w5 ⟨p9, cap9, rfl, f1, b5⟩; have a5 := a4.keep b5; have f0 := f0.below b5; have b5 := bel_call b4 b5)
      | (go_at_call 56; (with_reducible refine (HB.out _ a5).mono ?_); rintro e w6 ⟨X, rfl, hX, va, r6, ρ6, l6, a6, m6, x6⟩)
      | fail)
    go_ret3
    exact ⟨X, _, rfl, by have := b5.size; omega, va, r6, ρ6, l6, a6, (Mr.ofBelow ρ b5).trans m6, x6, .inl ⟨rfl, rfl⟩⟩
  · have HB := Lib.hid (fun W (a : RefAt W ρ R r) => (kb W a).mono fun e w' hrb => (hrb.resolve_right fun h => z h.1).2)
    rw [if_neg z]
    clear kb z
    go_enter Tryz.func22, Tryz.ntmps22
    go_wp2_with (first
      | (go_at_call 25; go_loud ((with_reducible refine HRD.out.mono ?_); rintro e w1 ⟨p1, n1, q1, rfl, b1⟩; have a1 := h.keep b1))
      | (go_at_call 55; (with_reducible refine (HS0.out _ a1).mono ?_); rintro e w2 ⟨rfl, m2, rfl⟩; have a2 := a1.keepN m2; have b2 := bel_call b1 (below_drewN w1 m2))
      | (go_at_call 54; (with_reducible refine (HD0.out _ a2.fresh).mono ?_); rintro e w3 ⟨p0, cap0, rfl, f0, b3⟩; have a3 := a2.keep b3; have b3 := bel_call b2 b3)
      | (go_at_call 55; (with_reducible refine (HS1.out _ a3).mono ?_); rintro e w4 ⟨rfl, m4, rfl⟩; have a4 := a3.keepN m4; have b4 := bel_call b3 (below_drewN w3 m4); have f0 := f0.below (below_drewN w3 m4))
      | (go_at_call 54; (with_reducible refine (HD1.out _ a4.fresh).mono ?_); rintro e w5 ⟨p9, cap9, rfl, f1, b5⟩; have a5 := a4.keep b5; have f0 := f0.below b5; have b5 := bel_call b4 b5)
      | (go_at_call 56; (with_reducible refine (HB.out _ a5).mono ?_); rintro e w6 ⟨rfl, l6⟩)
      | fail)
    go_ret3
    exact ⟨rfl, RL.trans (Mr.ofBelow ρ b5) l6⟩
set_option maxRecDepth 100000 in
set_option maxHeartbeats 4000000 in
theorem rv_open_0 (h : RefAt w ρ R r) (hr : Rel d r k m) (hk : k ≤ 90000) (hm : m ≤ 900000) (hoff : d.off = false) (hby : DBy d) (g0 : gO (lookI 0 (d.file 0).stands) ≠ 0) (g1 : ¬ gO (lookI 0 (d.file 0).stands) < gO (lookI 1 (d.file 1).stands)) : Calls Tryz.prog 22 #[.pointer (some ⟨R, 0, none⟩)] w fun e w' => RO ρ R w d.openV (k + 3) (m + 44) e w' := by
  have hz0 := hr.z 0
  have hz1 := hr.z 1
  have hb0 := hby.stands 0
  have hb1 := hby.stands 1
  have HRD := Lib.hid (rread_st h hr (by omega) (by omega) hoff)
  have hs0 := fun W (a : RefAt W ρ R r) => rv_stands a hr (by omega) (by omega) 0 0 (by omega) rfl
  have hs1 := fun W (a : RefAt W ρ R r) => rv_stands a hr (by omega) (by omega) 1 1 (by omega) rfl
  have hd0 := fun W (hf : ∀ g, W.heap.size ≤ g → ρ g = 0) => rsound_rd hr (by omega) 0 0 hb0 W hf
  have hd1 := fun W (hf : ∀ g, W.heap.size ≤ g → ρ g = 0) => rsound_rd hr (by omega) 1 1 hb1 W hf
  have hbn : bestN d 2 = updI (updI none 0 (lookI 0 (d.file 0).stands)) 1 (lookI 1 (d.file 1).stands) := rfl
  have hop : d.openV = match bestN d 2 with
    | none => if d.begin.1 = 0 then (0, d.begin.2, some (⟨1, 1, 0, false⟩, [])) else (d.begin.1, d.begin.2, none)
    | some (f, g, ls) => if (seqD (openL f (44 + sizeI ls)) d).1 = 0 then (0, (seqD (openL f (44 + sizeI ls)) d).2, some (⟨f, g, ls.length, false⟩, ls)) else ((seqD (openL f (44 + sizeI ls)) d).1, (seqD (openL f (44 + sizeI ls)) d).2, none) := by
    unfold Dk.openV; rw [if_neg (by rw [hoff]; simp)]; rfl
  rw [hbn] at hop
  clear hbn
  have ok0 := okO 0 (d.file 0).stands
  have ok1 := okO 1 (d.file 1).stands
  generalize lookI 0 (d.file 0).stands = o0 at *
  generalize lookI 1 (d.file 1).stands = o1 at *
  generalize strOfNums (d.file 0).stands = t0 at *
  generalize strOfNums (d.file 1).stands = t1 at *
  rw [best_lo g0 ok0 g1] at hop
  have hso := (gO_some g0).2
  have e1 : (gO o0 == 0) = false := beq_false_of_ne g0
  have e2 : decide (gO o0 < gO o1) = false := decide_eq_false g1
  simp only at hop
  rw [← hso] at hop
  have hS : seqD (openL 0 (sO o0)) d = if (d.vcut 0 (sO o0)).1 = 0 then if ((d.vcut 0 (sO o0)).2.sync 0).1 = 0 then if (((d.vcut 0 (sO o0)).2.sync 0).2.vcut 1 0).1 = 0 then (0, (((d.vcut 0 (sO o0)).2.sync 0).2.vcut 1 0).2) else ((d.vcut 0 (sO o0)).2.sync 0).2.vcut 1 0 else (d.vcut 0 (sO o0)).2.sync 0 else d.vcut 0 (sO o0) := by
    unfold openL
    rw [seqD, seqD, seqD, seqD]
    rfl
  rw [hS] at hop
  clear hS
  have K1 := fun W (a : RefAt W ρ R r) => rv_cut a hr (by omega) (by omega) hoff 0 0 (by omega) rfl (sO o0)
  have on1 := vcut_on (d := d) 0 (sO o0)
  generalize d.vcut 0 (sO o0) = q1 at *
  have K2 := fun w1 ρ1 r1 (a1 : RefAt w1 ρ1 R r1) (l1 : Rel q1.2 r1 (k + 1) m) => rv_sync a1 l1 (by omega) (by omega) 0
  have on2 := sync_on (d := q1.2) 0
  generalize q1.2.sync 0 = q2 at *
  have K3 := fun (h1 : q1.1 = 0) (h2 : q2.1 = 0) w1 ρ1 r1 (a1 : RefAt w1 ρ1 R r1) (l1 : Rel q2.2 r1 (k + 1) m) => rv_cut a1 l1 (by omega) (by omega) ((on2 h2).trans ((on1 h1).trans hoff)) 1 1 (by omega) rfl 0
  generalize q2.2.vcut 1 0 = q3 at *
  obtain ⟨c1, d1⟩ := q1
  obtain ⟨c2, d2⟩ := q2
  obtain ⟨c3, d3⟩ := q3
  simp only at *
  have HS0 := Lib.hid hs0; have HS1 := Lib.hid hs1; have HD0 := Lib.hid hd0; have HD1 := Lib.hid hd1
  have H1 := Lib.hid K1; have H2 := Lib.hid K2; have H3 := Lib.hid K3
  clear hs0 hs1 hd0 hd1 hb0 hb1 hz0 hz1 ok0 ok1 g0 g1 hr hoff hby hso on1 on2 K1 K2 K3
  generalize gO o0 = ga at *
  generalize gO o1 = gb at *
  generalize sO o0 = sa at *
  generalize sO o1 = sb at *
  generalize lO o0 = la at *
  generalize lO o1 = lb at *
  by_cases z1 : c1 = 0
  · by_cases z2 : c2 = 0
    · by_cases z3 : c3 = 0
      · have HV : d.openV = (0, d3, some (⟨0, ga, la.length, false⟩, la)) := by
          rw [hop, if_pos z1, if_pos z2, if_pos z3]; rfl
        subst z1 z2 z3
        rw [HV]
        clear hop HV
        go_enter Tryz.func22, Tryz.ntmps22
        go_wp2_with (first
          | (go_at_call 25; go_loud ((with_reducible refine HRD.out.mono ?_); rintro e w1 ⟨p1, n1, q1, rfl, b1⟩; have a1 := h.keep b1))
          | (go_at_call 55; (with_reducible refine (HS0.out _ a1).mono ?_); rintro e w2 ⟨rfl, m2, rfl⟩; have a2 := a1.keepN m2; have b2 := bel_call b1 (below_drewN w1 m2))
          | (go_at_call 54; (with_reducible refine (HD0.out _ a2.fresh).mono ?_); rintro e w3 ⟨p0, cap0, rfl, f0, b3⟩; have a3 := a2.keep b3; have b3 := bel_call b2 b3)
          | (go_at_call 55; (with_reducible refine (HS1.out _ a3).mono ?_); rintro e w4 ⟨rfl, m4, rfl⟩; have a4 := a3.keepN m4; have b4 := bel_call b3 (below_drewN w3 m4); have f0 := f0.below (below_drewN w3 m4))
          | (go_at_call 54; (with_reducible refine (HD1.out _ a4.fresh).mono ?_); rintro e w5 ⟨p9, cap9, rfl, f1, b5⟩; have a5 := a4.keep b5; have f0 := f0.below b5; have b5 := bel_call b4 b5)
          | (go_at_call 57; (with_reducible refine (H1.out _ a5).mono ?_); rintro e w6 ⟨rfl, r6, ρ6, l6, a6, m6⟩; have f6 := f0.mr m6; have m16 := (Mr.ofBelow ρ b5).trans m6)
          | (go_at_call 58; go_loud ((with_reducible refine (H2.out _ _ _ a6 l6).mono ?_); rintro e w7 ⟨rfl, r7, ρ7, l7, a7, m7⟩; have f7 := f6.mr m7; have m17 := m16.trans m7))
          | (go_at_call 57; go_loud ((with_reducible refine (H3.out trivial trivial _ _ _ a7 l7).mono ?_); rintro e w8 ⟨rfl, r8, ρ8, l8, a8, m8⟩; have f8 := f7.mr m8; have m18 := m17.trans m8))
          | fail)
        go_ret3
        have hb := bel_alloc (Below.refl w8.heap.size w8) (xobj R ⟨0, ga, la.length, false⟩)
        exact ⟨w8.heap.size, _, rfl, by have := m18.size; exact this, xobj_at w8 R ⟨0, ga, la.length, false⟩, r8, ρ8, l8.up (by omega) (by omega), a8.keep hb, m18.trans (Mr.ofBelow ρ8 hb), a8.fresh _ (Nat.le_refl _), f8.below hb⟩
      · have HV : d.openV = (c3, d3, none) := by
          rw [hop, if_pos z1, if_pos z2, if_neg z3, if_neg z3]
        subst z1 z2
        rw [HV]
        have z := Lib.hid z3
        have e3 : (c3 == 0) = false := beq_false_of_ne z3
        have e4 : (c3 != 0) = true := by rw [bne, e3]; rfl
        clear z3 hop HV
        go_enter Tryz.func22, Tryz.ntmps22
        go_wp2_with (first
          | (go_at_call 25; go_loud ((with_reducible refine HRD.out.mono ?_); rintro e w1 ⟨p1, n1, q1, rfl, b1⟩; have a1 := h.keep b1))
          | (go_at_call 55; (with_reducible refine (HS0.out _ a1).mono ?_); rintro e w2 ⟨rfl, m2, rfl⟩; have a2 := a1.keepN m2; have b2 := bel_call b1 (below_drewN w1 m2))
          | (go_at_call 54; (with_reducible refine (HD0.out _ a2.fresh).mono ?_); rintro e w3 ⟨p0, cap0, rfl, f0, b3⟩; have a3 := a2.keep b3; have b3 := bel_call b2 b3)
          | (go_at_call 55; (with_reducible refine (HS1.out _ a3).mono ?_); rintro e w4 ⟨rfl, m4, rfl⟩; have a4 := a3.keepN m4; have b4 := bel_call b3 (below_drewN w3 m4); have f0 := f0.below (below_drewN w3 m4))
          | (go_at_call 54; (with_reducible refine (HD1.out _ a4.fresh).mono ?_); rintro e w5 ⟨p9, cap9, rfl, f1, b5⟩; have a5 := a4.keep b5; have f0 := f0.below b5; have b5 := bel_call b4 b5)
          | (go_at_call 57; (with_reducible refine (H1.out _ a5).mono ?_); rintro e w6 ⟨rfl, r6, ρ6, l6, a6, m6⟩; have f6 := f0.mr m6; have m16 := (Mr.ofBelow ρ b5).trans m6)
          | (go_at_call 58; go_loud ((with_reducible refine (H2.out _ _ _ a6 l6).mono ?_); rintro e w7 ⟨rfl, r7, ρ7, l7, a7, m7⟩; have f7 := f6.mr m7; have m17 := m16.trans m7))
          | (go_at_call 57; go_loud ((with_reducible refine (H3.out trivial trivial _ _ _ a7 l7).mono ?_); rintro e w8 ⟨rfl, r8, ρ8, l8, a8, m8⟩; have f8 := f7.mr m8; have m18 := m17.trans m8))
          | fail)
        go_ret3
        exact ⟨rfl, r8, ρ8, l8.up (by omega) (by omega), a8, m18⟩
    · have HV : d.openV = (c2, d2, none) := by
        rw [hop, if_pos z1, if_neg z2, if_neg z2]
      subst z1
      rw [HV]
      have z := Lib.hid z2
      have e3 : (c2 == 0) = false := beq_false_of_ne z2
      have e4 : (c2 != 0) = true := by rw [bne, e3]; rfl
      clear z2 hop HV
      go_enter Tryz.func22, Tryz.ntmps22
      go_wp2_with (first
        | (go_at_call 25; go_loud ((with_reducible refine HRD.out.mono ?_); rintro e w1 ⟨p1, n1, q1, rfl, b1⟩; have a1 := h.keep b1))
        | (go_at_call 55; (with_reducible refine (HS0.out _ a1).mono ?_); rintro e w2 ⟨rfl, m2, rfl⟩; have a2 := a1.keepN m2; have b2 := bel_call b1 (below_drewN w1 m2))
        | (go_at_call 54; (with_reducible refine (HD0.out _ a2.fresh).mono ?_); rintro e w3 ⟨p0, cap0, rfl, f0, b3⟩; have a3 := a2.keep b3; have b3 := bel_call b2 b3)
        | (go_at_call 55; (with_reducible refine (HS1.out _ a3).mono ?_); rintro e w4 ⟨rfl, m4, rfl⟩; have a4 := a3.keepN m4; have b4 := bel_call b3 (below_drewN w3 m4); have f0 := f0.below (below_drewN w3 m4))
        | (go_at_call 54; (with_reducible refine (HD1.out _ a4.fresh).mono ?_); rintro e w5 ⟨p9, cap9, rfl, f1, b5⟩; have a5 := a4.keep b5; have f0 := f0.below b5; have b5 := bel_call b4 b5)
        | (go_at_call 57; (with_reducible refine (H1.out _ a5).mono ?_); rintro e w6 ⟨rfl, r6, ρ6, l6, a6, m6⟩; have f6 := f0.mr m6; have m16 := (Mr.ofBelow ρ b5).trans m6)
        | (go_at_call 58; go_loud ((with_reducible refine (H2.out _ _ _ a6 l6).mono ?_); rintro e w7 ⟨rfl, r7, ρ7, l7, a7, m7⟩; have f7 := f6.mr m7; have m17 := m16.trans m7))
        | (go_at_call 57; go_loud ((with_reducible refine (H3.out trivial trivial _ _ _ a7 l7).mono ?_); rintro e w8 ⟨rfl, r8, ρ8, l8, a8, m8⟩; have f8 := f7.mr m8; have m18 := m17.trans m8))
        | fail)
      go_ret3
      exact ⟨rfl, r7, ρ7, l7.up (by omega) (by omega), a7, m17⟩
  · have HV : d.openV = (c1, d1, none) := by
      rw [hop, if_neg z1, if_neg z1]
    rw [HV]
    have z := Lib.hid z1
    have e3 : (c1 == 0) = false := beq_false_of_ne z1
    have e4 : (c1 != 0) = true := by rw [bne, e3]; rfl
    clear z1 hop HV
    go_enter Tryz.func22, Tryz.ntmps22
    go_wp2_with (first
      | (go_at_call 25; go_loud ((with_reducible refine HRD.out.mono ?_); rintro e w1 ⟨p1, n1, q1, rfl, b1⟩; have a1 := h.keep b1))
      | (go_at_call 55; (with_reducible refine (HS0.out _ a1).mono ?_); rintro e w2 ⟨rfl, m2, rfl⟩; have a2 := a1.keepN m2; have b2 := bel_call b1 (below_drewN w1 m2))
      | (go_at_call 54; (with_reducible refine (HD0.out _ a2.fresh).mono ?_); rintro e w3 ⟨p0, cap0, rfl, f0, b3⟩; have a3 := a2.keep b3; have b3 := bel_call b2 b3)
      | (go_at_call 55; (with_reducible refine (HS1.out _ a3).mono ?_); rintro e w4 ⟨rfl, m4, rfl⟩; have a4 := a3.keepN m4; have b4 := bel_call b3 (below_drewN w3 m4); have f0 := f0.below (below_drewN w3 m4))
      | (go_at_call 54; (with_reducible refine (HD1.out _ a4.fresh).mono ?_); rintro e w5 ⟨p9, cap9, rfl, f1, b5⟩; have a5 := a4.keep b5; have f0 := f0.below b5; have b5 := bel_call b4 b5)
      | (go_at_call 57; (with_reducible refine (H1.out _ a5).mono ?_); rintro e w6 ⟨rfl, r6, ρ6, l6, a6, m6⟩; have f6 := f0.mr m6; have m16 := (Mr.ofBelow ρ b5).trans m6)
      | (go_at_call 58; go_loud ((with_reducible refine (H2.out _ _ _ a6 l6).mono ?_); rintro e w7 ⟨rfl, r7, ρ7, l7, a7, m7⟩; have f7 := f6.mr m7; have m17 := m16.trans m7))
      | (go_at_call 57; go_loud ((with_reducible refine (H3.out trivial trivial _ _ _ a7 l7).mono ?_); rintro e w8 ⟨rfl, r8, ρ8, l8, a8, m8⟩; have f8 := f7.mr m8; have m18 := m17.trans m8))
      | fail)
    go_ret3
    exact ⟨rfl, r6, ρ6, l6.up (by omega) (by omega), a6, m16⟩
set_option maxRecDepth 100000 in
set_option maxHeartbeats 4000000 in
theorem rv_open_1a (h : RefAt w ρ R r) (hr : Rel d r k m) (hk : k ≤ 90000) (hm : m ≤ 900000) (hoff : d.off = false) (hby : DBy d) (gz : gO (lookI 0 (d.file 0).stands) = 0) (g1 : gO (lookI 0 (d.file 0).stands) < gO (lookI 1 (d.file 1).stands)) : Calls Tryz.prog 22 #[.pointer (some ⟨R, 0, none⟩)] w fun e w' => RO ρ R w d.openV (k + 3) (m + 44) e w' := by
  have hz0 := hr.z 0
  have hz1 := hr.z 1
  have hb0 := hby.stands 0
  have hb1 := hby.stands 1
  have HRD := Lib.hid (rread_st h hr (by omega) (by omega) hoff)
  have hs0 := fun W (a : RefAt W ρ R r) => rv_stands a hr (by omega) (by omega) 0 0 (by omega) rfl
  have hs1 := fun W (a : RefAt W ρ R r) => rv_stands a hr (by omega) (by omega) 1 1 (by omega) rfl
  have hd0 := fun W (hf : ∀ g, W.heap.size ≤ g → ρ g = 0) => rsound_rd hr (by omega) 0 0 hb0 W hf
  have hd1 := fun W (hf : ∀ g, W.heap.size ≤ g → ρ g = 0) => rsound_rd hr (by omega) 1 1 hb1 W hf
  have hbn : bestN d 2 = updI (updI none 0 (lookI 0 (d.file 0).stands)) 1 (lookI 1 (d.file 1).stands) := rfl
  have hop : d.openV = match bestN d 2 with
    | none => if d.begin.1 = 0 then (0, d.begin.2, some (⟨1, 1, 0, false⟩, [])) else (d.begin.1, d.begin.2, none)
    | some (f, g, ls) => if (seqD (openL f (44 + sizeI ls)) d).1 = 0 then (0, (seqD (openL f (44 + sizeI ls)) d).2, some (⟨f, g, ls.length, false⟩, ls)) else ((seqD (openL f (44 + sizeI ls)) d).1, (seqD (openL f (44 + sizeI ls)) d).2, none) := by
    unfold Dk.openV; rw [if_neg (by rw [hoff]; simp)]; rfl
  rw [hbn] at hop
  clear hbn
  have ok0 := okO 0 (d.file 0).stands
  have ok1 := okO 1 (d.file 1).stands
  generalize lookI 0 (d.file 0).stands = o0 at *
  generalize lookI 1 (d.file 1).stands = o1 at *
  generalize strOfNums (d.file 0).stands = t0 at *
  generalize strOfNums (d.file 1).stands = t1 at *
  have e0 : (gO o0 == 0) = true := beq_iff_eq.2 gz
  clear gz
  rw [best_hi ok0 g1] at hop
  have g0 := (gO_ge ok0).1
  have hso := (gO_some (o := o1) (by omega)).2
  have e1 : (gO o1 == 0) = false := beq_false_of_ne (by omega)
  have e2 : decide (gO o0 < gO o1) = true := decide_eq_true g1
  simp only at hop
  rw [← hso] at hop
  have hS : seqD (openL 1 (sO o1)) d = if (d.vcut 1 (sO o1)).1 = 0 then if ((d.vcut 1 (sO o1)).2.sync 1).1 = 0 then if (((d.vcut 1 (sO o1)).2.sync 1).2.vcut 0 0).1 = 0 then (0, (((d.vcut 1 (sO o1)).2.sync 1).2.vcut 0 0).2) else ((d.vcut 1 (sO o1)).2.sync 1).2.vcut 0 0 else (d.vcut 1 (sO o1)).2.sync 1 else d.vcut 1 (sO o1) := by
    unfold openL
    rw [seqD, seqD, seqD, seqD]
    rfl
  rw [hS] at hop
  clear hS
  have K1 := fun W (a : RefAt W ρ R r) => rv_cut a hr (by omega) (by omega) hoff 1 1 (by omega) rfl (sO o1)
  have on1 := vcut_on (d := d) 1 (sO o1)
  generalize d.vcut 1 (sO o1) = q1 at *
  have K2 := fun w1 ρ1 r1 (a1 : RefAt w1 ρ1 R r1) (l1 : Rel q1.2 r1 (k + 1) m) => rv_sync a1 l1 (by omega) (by omega) 1
  have on2 := sync_on (d := q1.2) 1
  generalize q1.2.sync 1 = q2 at *
  have K3 := fun (h1 : q1.1 = 0) (h2 : q2.1 = 0) w1 ρ1 r1 (a1 : RefAt w1 ρ1 R r1) (l1 : Rel q2.2 r1 (k + 1) m) => rv_cut a1 l1 (by omega) (by omega) ((on2 h2).trans ((on1 h1).trans hoff)) 0 0 (by omega) rfl 0
  generalize q2.2.vcut 0 0 = q3 at *
  obtain ⟨c1, d1⟩ := q1
  obtain ⟨c2, d2⟩ := q2
  obtain ⟨c3, d3⟩ := q3
  simp only at *
  have HS0 := Lib.hid hs0; have HS1 := Lib.hid hs1; have HD0 := Lib.hid hd0; have HD1 := Lib.hid hd1
  have H1 := Lib.hid K1; have H2 := Lib.hid K2; have H3 := Lib.hid K3
  clear hs0 hs1 hd0 hd1 hb0 hb1 hz0 hz1 ok0 ok1 g0 g1 hr hoff hby hso on1 on2 K1 K2 K3
  generalize gO o0 = ga at *
  generalize gO o1 = gb at *
  generalize sO o0 = sa at *
  generalize sO o1 = sb at *
  generalize lO o0 = la at *
  generalize lO o1 = lb at *
  by_cases z1 : c1 = 0
  · by_cases z2 : c2 = 0
    · by_cases z3 : c3 = 0
      · have HV : d.openV = (0, d3, some (⟨1, gb, lb.length, false⟩, lb)) := by
          rw [hop, if_pos z1, if_pos z2, if_pos z3]; rfl
        subst z1 z2 z3
        rw [HV]
        clear hop HV
        go_enter Tryz.func22, Tryz.ntmps22
        go_wp2_with (first
          | (go_at_call 25; go_loud ((with_reducible refine HRD.out.mono ?_); rintro e w1 ⟨p1, n1, q1, rfl, b1⟩; have a1 := h.keep b1))
          | (go_at_call 55; (with_reducible refine (HS0.out _ a1).mono ?_); rintro e w2 ⟨rfl, m2, rfl⟩; have a2 := a1.keepN m2; have b2 := bel_call b1 (below_drewN w1 m2))
          | (go_at_call 54; (with_reducible refine (HD0.out _ a2.fresh).mono ?_); rintro e w3 ⟨p0, cap0, rfl, f0, b3⟩; have a3 := a2.keep b3; have b3 := bel_call b2 b3)
          | (go_at_call 55; (with_reducible refine (HS1.out _ a3).mono ?_); rintro e w4 ⟨rfl, m4, rfl⟩; have a4 := a3.keepN m4; have b4 := bel_call b3 (below_drewN w3 m4); have f0 := f0.below (below_drewN w3 m4))
          | (go_at_call 54; (with_reducible refine (HD1.out _ a4.fresh).mono ?_); rintro e w5 ⟨p9, cap9, rfl, f1, b5⟩; have a5 := a4.keep b5; have f0 := f0.below b5; have b5 := bel_call b4 b5)
          | (go_at_call 57; (with_reducible refine (H1.out _ a5).mono ?_); rintro e w6 ⟨rfl, r6, ρ6, l6, a6, m6⟩; have f6 := f1.mr m6; have m16 := (Mr.ofBelow ρ b5).trans m6)
          | (go_at_call 58; go_loud ((with_reducible refine (H2.out _ _ _ a6 l6).mono ?_); rintro e w7 ⟨rfl, r7, ρ7, l7, a7, m7⟩; have f7 := f6.mr m7; have m17 := m16.trans m7))
          | (go_at_call 57; go_loud ((with_reducible refine (H3.out trivial trivial _ _ _ a7 l7).mono ?_); rintro e w8 ⟨rfl, r8, ρ8, l8, a8, m8⟩; have f8 := f7.mr m8; have m18 := m17.trans m8))
          | fail)
        go_ret3
        have hb := bel_alloc (Below.refl w8.heap.size w8) (xobj R ⟨1, gb, lb.length, false⟩)
        exact ⟨w8.heap.size, _, rfl, by have := m18.size; exact this, xobj_at w8 R ⟨1, gb, lb.length, false⟩, r8, ρ8, l8.up (by omega) (by omega), a8.keep hb, m18.trans (Mr.ofBelow ρ8 hb), a8.fresh _ (Nat.le_refl _), f8.below hb⟩
      · have HV : d.openV = (c3, d3, none) := by
          rw [hop, if_pos z1, if_pos z2, if_neg z3, if_neg z3]
        subst z1 z2
        rw [HV]
        have z := Lib.hid z3
        have e3 : (c3 == 0) = false := beq_false_of_ne z3
        have e4 : (c3 != 0) = true := by rw [bne, e3]; rfl
        clear z3 hop HV
        go_enter Tryz.func22, Tryz.ntmps22
        go_wp2_with (first
          | (go_at_call 25; go_loud ((with_reducible refine HRD.out.mono ?_); rintro e w1 ⟨p1, n1, q1, rfl, b1⟩; have a1 := h.keep b1))
          | (go_at_call 55; (with_reducible refine (HS0.out _ a1).mono ?_); rintro e w2 ⟨rfl, m2, rfl⟩; have a2 := a1.keepN m2; have b2 := bel_call b1 (below_drewN w1 m2))
          | (go_at_call 54; (with_reducible refine (HD0.out _ a2.fresh).mono ?_); rintro e w3 ⟨p0, cap0, rfl, f0, b3⟩; have a3 := a2.keep b3; have b3 := bel_call b2 b3)
          | (go_at_call 55; (with_reducible refine (HS1.out _ a3).mono ?_); rintro e w4 ⟨rfl, m4, rfl⟩; have a4 := a3.keepN m4; have b4 := bel_call b3 (below_drewN w3 m4); have f0 := f0.below (below_drewN w3 m4))
          | (go_at_call 54; (with_reducible refine (HD1.out _ a4.fresh).mono ?_); rintro e w5 ⟨p9, cap9, rfl, f1, b5⟩; have a5 := a4.keep b5; have f0 := f0.below b5; have b5 := bel_call b4 b5)
          | (go_at_call 57; (with_reducible refine (H1.out _ a5).mono ?_); rintro e w6 ⟨rfl, r6, ρ6, l6, a6, m6⟩; have f6 := f1.mr m6; have m16 := (Mr.ofBelow ρ b5).trans m6)
          | (go_at_call 58; go_loud ((with_reducible refine (H2.out _ _ _ a6 l6).mono ?_); rintro e w7 ⟨rfl, r7, ρ7, l7, a7, m7⟩; have f7 := f6.mr m7; have m17 := m16.trans m7))
          | (go_at_call 57; go_loud ((with_reducible refine (H3.out trivial trivial _ _ _ a7 l7).mono ?_); rintro e w8 ⟨rfl, r8, ρ8, l8, a8, m8⟩; have f8 := f7.mr m8; have m18 := m17.trans m8))
          | fail)
        go_ret3
        exact ⟨rfl, r8, ρ8, l8.up (by omega) (by omega), a8, m18⟩
    · have HV : d.openV = (c2, d2, none) := by
        rw [hop, if_pos z1, if_neg z2, if_neg z2]
      subst z1
      rw [HV]
      have z := Lib.hid z2
      have e3 : (c2 == 0) = false := beq_false_of_ne z2
      have e4 : (c2 != 0) = true := by rw [bne, e3]; rfl
      clear z2 hop HV
      go_enter Tryz.func22, Tryz.ntmps22
      go_wp2_with (first
        | (go_at_call 25; go_loud ((with_reducible refine HRD.out.mono ?_); rintro e w1 ⟨p1, n1, q1, rfl, b1⟩; have a1 := h.keep b1))
        | (go_at_call 55; (with_reducible refine (HS0.out _ a1).mono ?_); rintro e w2 ⟨rfl, m2, rfl⟩; have a2 := a1.keepN m2; have b2 := bel_call b1 (below_drewN w1 m2))
        | (go_at_call 54; (with_reducible refine (HD0.out _ a2.fresh).mono ?_); rintro e w3 ⟨p0, cap0, rfl, f0, b3⟩; have a3 := a2.keep b3; have b3 := bel_call b2 b3)
        | (go_at_call 55; (with_reducible refine (HS1.out _ a3).mono ?_); rintro e w4 ⟨rfl, m4, rfl⟩; have a4 := a3.keepN m4; have b4 := bel_call b3 (below_drewN w3 m4); have f0 := f0.below (below_drewN w3 m4))
        | (go_at_call 54; (with_reducible refine (HD1.out _ a4.fresh).mono ?_); rintro e w5 ⟨p9, cap9, rfl, f1, b5⟩; have a5 := a4.keep b5; have f0 := f0.below b5; have b5 := bel_call b4 b5)
        | (go_at_call 57; (with_reducible refine (H1.out _ a5).mono ?_); rintro e w6 ⟨rfl, r6, ρ6, l6, a6, m6⟩; have f6 := f1.mr m6; have m16 := (Mr.ofBelow ρ b5).trans m6)
        | (go_at_call 58; go_loud ((with_reducible refine (H2.out _ _ _ a6 l6).mono ?_); rintro e w7 ⟨rfl, r7, ρ7, l7, a7, m7⟩; have f7 := f6.mr m7; have m17 := m16.trans m7))
        | (go_at_call 57; go_loud ((with_reducible refine (H3.out trivial trivial _ _ _ a7 l7).mono ?_); rintro e w8 ⟨rfl, r8, ρ8, l8, a8, m8⟩; have f8 := f7.mr m8; have m18 := m17.trans m8))
        | fail)
      go_ret3
      exact ⟨rfl, r7, ρ7, l7.up (by omega) (by omega), a7, m17⟩
  · have HV : d.openV = (c1, d1, none) := by
      rw [hop, if_neg z1, if_neg z1]
    rw [HV]
    have z := Lib.hid z1
    have e3 : (c1 == 0) = false := beq_false_of_ne z1
    have e4 : (c1 != 0) = true := by rw [bne, e3]; rfl
    clear z1 hop HV
    go_enter Tryz.func22, Tryz.ntmps22
    go_wp2_with (first
      | (go_at_call 25; go_loud ((with_reducible refine HRD.out.mono ?_); rintro e w1 ⟨p1, n1, q1, rfl, b1⟩; have a1 := h.keep b1))
      | (go_at_call 55; (with_reducible refine (HS0.out _ a1).mono ?_); rintro e w2 ⟨rfl, m2, rfl⟩; have a2 := a1.keepN m2; have b2 := bel_call b1 (below_drewN w1 m2))
      | (go_at_call 54; (with_reducible refine (HD0.out _ a2.fresh).mono ?_); rintro e w3 ⟨p0, cap0, rfl, f0, b3⟩; have a3 := a2.keep b3; have b3 := bel_call b2 b3)
      | (go_at_call 55; (with_reducible refine (HS1.out _ a3).mono ?_); rintro e w4 ⟨rfl, m4, rfl⟩; have a4 := a3.keepN m4; have b4 := bel_call b3 (below_drewN w3 m4); have f0 := f0.below (below_drewN w3 m4))
      | (go_at_call 54; (with_reducible refine (HD1.out _ a4.fresh).mono ?_); rintro e w5 ⟨p9, cap9, rfl, f1, b5⟩; have a5 := a4.keep b5; have f0 := f0.below b5; have b5 := bel_call b4 b5)
      | (go_at_call 57; (with_reducible refine (H1.out _ a5).mono ?_); rintro e w6 ⟨rfl, r6, ρ6, l6, a6, m6⟩; have f6 := f1.mr m6; have m16 := (Mr.ofBelow ρ b5).trans m6)
      | (go_at_call 58; go_loud ((with_reducible refine (H2.out _ _ _ a6 l6).mono ?_); rintro e w7 ⟨rfl, r7, ρ7, l7, a7, m7⟩; have f7 := f6.mr m7; have m17 := m16.trans m7))
      | (go_at_call 57; go_loud ((with_reducible refine (H3.out trivial trivial _ _ _ a7 l7).mono ?_); rintro e w8 ⟨rfl, r8, ρ8, l8, a8, m8⟩; have f8 := f7.mr m8; have m18 := m17.trans m8))
      | fail)
    go_ret3
    exact ⟨rfl, r6, ρ6, l6.up (by omega) (by omega), a6, m16⟩
set_option maxRecDepth 100000 in
set_option maxHeartbeats 4000000 in
theorem rv_open_1b (h : RefAt w ρ R r) (hr : Rel d r k m) (hk : k ≤ 90000) (hm : m ≤ 900000) (hoff : d.off = false) (hby : DBy d) (gz : gO (lookI 0 (d.file 0).stands) ≠ 0) (g1 : gO (lookI 0 (d.file 0).stands) < gO (lookI 1 (d.file 1).stands)) : Calls Tryz.prog 22 #[.pointer (some ⟨R, 0, none⟩)] w fun e w' => RO ρ R w d.openV (k + 3) (m + 44) e w' := by
  have hz0 := hr.z 0
  have hz1 := hr.z 1
  have hb0 := hby.stands 0
  have hb1 := hby.stands 1
  have HRD := Lib.hid (rread_st h hr (by omega) (by omega) hoff)
  have hs0 := fun W (a : RefAt W ρ R r) => rv_stands a hr (by omega) (by omega) 0 0 (by omega) rfl
  have hs1 := fun W (a : RefAt W ρ R r) => rv_stands a hr (by omega) (by omega) 1 1 (by omega) rfl
  have hd0 := fun W (hf : ∀ g, W.heap.size ≤ g → ρ g = 0) => rsound_rd hr (by omega) 0 0 hb0 W hf
  have hd1 := fun W (hf : ∀ g, W.heap.size ≤ g → ρ g = 0) => rsound_rd hr (by omega) 1 1 hb1 W hf
  have hbn : bestN d 2 = updI (updI none 0 (lookI 0 (d.file 0).stands)) 1 (lookI 1 (d.file 1).stands) := rfl
  have hop : d.openV = match bestN d 2 with
    | none => if d.begin.1 = 0 then (0, d.begin.2, some (⟨1, 1, 0, false⟩, [])) else (d.begin.1, d.begin.2, none)
    | some (f, g, ls) => if (seqD (openL f (44 + sizeI ls)) d).1 = 0 then (0, (seqD (openL f (44 + sizeI ls)) d).2, some (⟨f, g, ls.length, false⟩, ls)) else ((seqD (openL f (44 + sizeI ls)) d).1, (seqD (openL f (44 + sizeI ls)) d).2, none) := by
    unfold Dk.openV; rw [if_neg (by rw [hoff]; simp)]; rfl
  rw [hbn] at hop
  clear hbn
  have ok0 := okO 0 (d.file 0).stands
  have ok1 := okO 1 (d.file 1).stands
  generalize lookI 0 (d.file 0).stands = o0 at *
  generalize lookI 1 (d.file 1).stands = o1 at *
  generalize strOfNums (d.file 0).stands = t0 at *
  generalize strOfNums (d.file 1).stands = t1 at *
  have e0 : (gO o0 == 0) = false := beq_false_of_ne gz
  clear gz
  rw [best_hi ok0 g1] at hop
  have g0 := (gO_ge ok0).1
  have hso := (gO_some (o := o1) (by omega)).2
  have e1 : (gO o1 == 0) = false := beq_false_of_ne (by omega)
  have e2 : decide (gO o0 < gO o1) = true := decide_eq_true g1
  simp only at hop
  rw [← hso] at hop
  have hS : seqD (openL 1 (sO o1)) d = if (d.vcut 1 (sO o1)).1 = 0 then if ((d.vcut 1 (sO o1)).2.sync 1).1 = 0 then if (((d.vcut 1 (sO o1)).2.sync 1).2.vcut 0 0).1 = 0 then (0, (((d.vcut 1 (sO o1)).2.sync 1).2.vcut 0 0).2) else ((d.vcut 1 (sO o1)).2.sync 1).2.vcut 0 0 else (d.vcut 1 (sO o1)).2.sync 1 else d.vcut 1 (sO o1) := by
    unfold openL
    rw [seqD, seqD, seqD, seqD]
    rfl
  rw [hS] at hop
  clear hS
  have K1 := fun W (a : RefAt W ρ R r) => rv_cut a hr (by omega) (by omega) hoff 1 1 (by omega) rfl (sO o1)
  have on1 := vcut_on (d := d) 1 (sO o1)
  generalize d.vcut 1 (sO o1) = q1 at *
  have K2 := fun w1 ρ1 r1 (a1 : RefAt w1 ρ1 R r1) (l1 : Rel q1.2 r1 (k + 1) m) => rv_sync a1 l1 (by omega) (by omega) 1
  have on2 := sync_on (d := q1.2) 1
  generalize q1.2.sync 1 = q2 at *
  have K3 := fun (h1 : q1.1 = 0) (h2 : q2.1 = 0) w1 ρ1 r1 (a1 : RefAt w1 ρ1 R r1) (l1 : Rel q2.2 r1 (k + 1) m) => rv_cut a1 l1 (by omega) (by omega) ((on2 h2).trans ((on1 h1).trans hoff)) 0 0 (by omega) rfl 0
  generalize q2.2.vcut 0 0 = q3 at *
  obtain ⟨c1, d1⟩ := q1
  obtain ⟨c2, d2⟩ := q2
  obtain ⟨c3, d3⟩ := q3
  simp only at *
  have HS0 := Lib.hid hs0; have HS1 := Lib.hid hs1; have HD0 := Lib.hid hd0; have HD1 := Lib.hid hd1
  have H1 := Lib.hid K1; have H2 := Lib.hid K2; have H3 := Lib.hid K3
  clear hs0 hs1 hd0 hd1 hb0 hb1 hz0 hz1 ok0 ok1 g0 g1 hr hoff hby hso on1 on2 K1 K2 K3
  generalize gO o0 = ga at *
  generalize gO o1 = gb at *
  generalize sO o0 = sa at *
  generalize sO o1 = sb at *
  generalize lO o0 = la at *
  generalize lO o1 = lb at *
  by_cases z1 : c1 = 0
  · by_cases z2 : c2 = 0
    · by_cases z3 : c3 = 0
      · have HV : d.openV = (0, d3, some (⟨1, gb, lb.length, false⟩, lb)) := by
          rw [hop, if_pos z1, if_pos z2, if_pos z3]; rfl
        subst z1 z2 z3
        rw [HV]
        clear hop HV
        go_enter Tryz.func22, Tryz.ntmps22
        go_wp2_with (first
          | (go_at_call 25; go_loud ((with_reducible refine HRD.out.mono ?_); rintro e w1 ⟨p1, n1, q1, rfl, b1⟩; have a1 := h.keep b1))
          | (go_at_call 55; (with_reducible refine (HS0.out _ a1).mono ?_); rintro e w2 ⟨rfl, m2, rfl⟩; have a2 := a1.keepN m2; have b2 := bel_call b1 (below_drewN w1 m2))
          | (go_at_call 54; (with_reducible refine (HD0.out _ a2.fresh).mono ?_); rintro e w3 ⟨p0, cap0, rfl, f0, b3⟩; have a3 := a2.keep b3; have b3 := bel_call b2 b3)
          | (go_at_call 55; (with_reducible refine (HS1.out _ a3).mono ?_); rintro e w4 ⟨rfl, m4, rfl⟩; have a4 := a3.keepN m4; have b4 := bel_call b3 (below_drewN w3 m4); have f0 := f0.below (below_drewN w3 m4))
          | (go_at_call 54; (with_reducible refine (HD1.out _ a4.fresh).mono ?_); rintro e w5 ⟨p9, cap9, rfl, f1, b5⟩; have a5 := a4.keep b5; have f0 := f0.below b5; have b5 := bel_call b4 b5)
          | (go_at_call 57; (with_reducible refine (H1.out _ a5).mono ?_); rintro e w6 ⟨rfl, r6, ρ6, l6, a6, m6⟩; have f6 := f1.mr m6; have m16 := (Mr.ofBelow ρ b5).trans m6)
          | (go_at_call 58; go_loud ((with_reducible refine (H2.out _ _ _ a6 l6).mono ?_); rintro e w7 ⟨rfl, r7, ρ7, l7, a7, m7⟩; have f7 := f6.mr m7; have m17 := m16.trans m7))
          | (go_at_call 57; go_loud ((with_reducible refine (H3.out trivial trivial _ _ _ a7 l7).mono ?_); rintro e w8 ⟨rfl, r8, ρ8, l8, a8, m8⟩; have f8 := f7.mr m8; have m18 := m17.trans m8))
          | fail)
        go_ret3
        have hb := bel_alloc (Below.refl w8.heap.size w8) (xobj R ⟨1, gb, lb.length, false⟩)
        exact ⟨w8.heap.size, _, rfl, by have := m18.size; exact this, xobj_at w8 R ⟨1, gb, lb.length, false⟩, r8, ρ8, l8.up (by omega) (by omega), a8.keep hb, m18.trans (Mr.ofBelow ρ8 hb), a8.fresh _ (Nat.le_refl _), f8.below hb⟩
      · have HV : d.openV = (c3, d3, none) := by
          rw [hop, if_pos z1, if_pos z2, if_neg z3, if_neg z3]
        subst z1 z2
        rw [HV]
        have z := Lib.hid z3
        have e3 : (c3 == 0) = false := beq_false_of_ne z3
        have e4 : (c3 != 0) = true := by rw [bne, e3]; rfl
        clear z3 hop HV
        go_enter Tryz.func22, Tryz.ntmps22
        go_wp2_with (first
          | (go_at_call 25; go_loud ((with_reducible refine HRD.out.mono ?_); rintro e w1 ⟨p1, n1, q1, rfl, b1⟩; have a1 := h.keep b1))
          | (go_at_call 55; (with_reducible refine (HS0.out _ a1).mono ?_); rintro e w2 ⟨rfl, m2, rfl⟩; have a2 := a1.keepN m2; have b2 := bel_call b1 (below_drewN w1 m2))
          | (go_at_call 54; (with_reducible refine (HD0.out _ a2.fresh).mono ?_); rintro e w3 ⟨p0, cap0, rfl, f0, b3⟩; have a3 := a2.keep b3; have b3 := bel_call b2 b3)
          | (go_at_call 55; (with_reducible refine (HS1.out _ a3).mono ?_); rintro e w4 ⟨rfl, m4, rfl⟩; have a4 := a3.keepN m4; have b4 := bel_call b3 (below_drewN w3 m4); have f0 := f0.below (below_drewN w3 m4))
          | (go_at_call 54; (with_reducible refine (HD1.out _ a4.fresh).mono ?_); rintro e w5 ⟨p9, cap9, rfl, f1, b5⟩; have a5 := a4.keep b5; have f0 := f0.below b5; have b5 := bel_call b4 b5)
          | (go_at_call 57; (with_reducible refine (H1.out _ a5).mono ?_); rintro e w6 ⟨rfl, r6, ρ6, l6, a6, m6⟩; have f6 := f1.mr m6; have m16 := (Mr.ofBelow ρ b5).trans m6)
          | (go_at_call 58; go_loud ((with_reducible refine (H2.out _ _ _ a6 l6).mono ?_); rintro e w7 ⟨rfl, r7, ρ7, l7, a7, m7⟩; have f7 := f6.mr m7; have m17 := m16.trans m7))
          | (go_at_call 57; go_loud ((with_reducible refine (H3.out trivial trivial _ _ _ a7 l7).mono ?_); rintro e w8 ⟨rfl, r8, ρ8, l8, a8, m8⟩; have f8 := f7.mr m8; have m18 := m17.trans m8))
          | fail)
        go_ret3
        exact ⟨rfl, r8, ρ8, l8.up (by omega) (by omega), a8, m18⟩
    · have HV : d.openV = (c2, d2, none) := by
        rw [hop, if_pos z1, if_neg z2, if_neg z2]
      subst z1
      rw [HV]
      have z := Lib.hid z2
      have e3 : (c2 == 0) = false := beq_false_of_ne z2
      have e4 : (c2 != 0) = true := by rw [bne, e3]; rfl
      clear z2 hop HV
      go_enter Tryz.func22, Tryz.ntmps22
      go_wp2_with (first
        | (go_at_call 25; go_loud ((with_reducible refine HRD.out.mono ?_); rintro e w1 ⟨p1, n1, q1, rfl, b1⟩; have a1 := h.keep b1))
        | (go_at_call 55; (with_reducible refine (HS0.out _ a1).mono ?_); rintro e w2 ⟨rfl, m2, rfl⟩; have a2 := a1.keepN m2; have b2 := bel_call b1 (below_drewN w1 m2))
        | (go_at_call 54; (with_reducible refine (HD0.out _ a2.fresh).mono ?_); rintro e w3 ⟨p0, cap0, rfl, f0, b3⟩; have a3 := a2.keep b3; have b3 := bel_call b2 b3)
        | (go_at_call 55; (with_reducible refine (HS1.out _ a3).mono ?_); rintro e w4 ⟨rfl, m4, rfl⟩; have a4 := a3.keepN m4; have b4 := bel_call b3 (below_drewN w3 m4); have f0 := f0.below (below_drewN w3 m4))
        | (go_at_call 54; (with_reducible refine (HD1.out _ a4.fresh).mono ?_); rintro e w5 ⟨p9, cap9, rfl, f1, b5⟩; have a5 := a4.keep b5; have f0 := f0.below b5; have b5 := bel_call b4 b5)
        | (go_at_call 57; (with_reducible refine (H1.out _ a5).mono ?_); rintro e w6 ⟨rfl, r6, ρ6, l6, a6, m6⟩; have f6 := f1.mr m6; have m16 := (Mr.ofBelow ρ b5).trans m6)
        | (go_at_call 58; go_loud ((with_reducible refine (H2.out _ _ _ a6 l6).mono ?_); rintro e w7 ⟨rfl, r7, ρ7, l7, a7, m7⟩; have f7 := f6.mr m7; have m17 := m16.trans m7))
        | (go_at_call 57; go_loud ((with_reducible refine (H3.out trivial trivial _ _ _ a7 l7).mono ?_); rintro e w8 ⟨rfl, r8, ρ8, l8, a8, m8⟩; have f8 := f7.mr m8; have m18 := m17.trans m8))
        | fail)
      go_ret3
      exact ⟨rfl, r7, ρ7, l7.up (by omega) (by omega), a7, m17⟩
  · have HV : d.openV = (c1, d1, none) := by
      rw [hop, if_neg z1, if_neg z1]
    rw [HV]
    have z := Lib.hid z1
    have e3 : (c1 == 0) = false := beq_false_of_ne z1
    have e4 : (c1 != 0) = true := by rw [bne, e3]; rfl
    clear z1 hop HV
    go_enter Tryz.func22, Tryz.ntmps22
    go_wp2_with (first
      | (go_at_call 25; go_loud ((with_reducible refine HRD.out.mono ?_); rintro e w1 ⟨p1, n1, q1, rfl, b1⟩; have a1 := h.keep b1))
      | (go_at_call 55; (with_reducible refine (HS0.out _ a1).mono ?_); rintro e w2 ⟨rfl, m2, rfl⟩; have a2 := a1.keepN m2; have b2 := bel_call b1 (below_drewN w1 m2))
      | (go_at_call 54; (with_reducible refine (HD0.out _ a2.fresh).mono ?_); rintro e w3 ⟨p0, cap0, rfl, f0, b3⟩; have a3 := a2.keep b3; have b3 := bel_call b2 b3)
      | (go_at_call 55; (with_reducible refine (HS1.out _ a3).mono ?_); rintro e w4 ⟨rfl, m4, rfl⟩; have a4 := a3.keepN m4; have b4 := bel_call b3 (below_drewN w3 m4); have f0 := f0.below (below_drewN w3 m4))
      | (go_at_call 54; (with_reducible refine (HD1.out _ a4.fresh).mono ?_); rintro e w5 ⟨p9, cap9, rfl, f1, b5⟩; have a5 := a4.keep b5; have f0 := f0.below b5; have b5 := bel_call b4 b5)
      | (go_at_call 57; (with_reducible refine (H1.out _ a5).mono ?_); rintro e w6 ⟨rfl, r6, ρ6, l6, a6, m6⟩; have f6 := f1.mr m6; have m16 := (Mr.ofBelow ρ b5).trans m6)
      | (go_at_call 58; go_loud ((with_reducible refine (H2.out _ _ _ a6 l6).mono ?_); rintro e w7 ⟨rfl, r7, ρ7, l7, a7, m7⟩; have f7 := f6.mr m7; have m17 := m16.trans m7))
      | (go_at_call 57; go_loud ((with_reducible refine (H3.out trivial trivial _ _ _ a7 l7).mono ?_); rintro e w8 ⟨rfl, r8, ρ8, l8, a8, m8⟩; have f8 := f7.mr m8; have m18 := m17.trans m8))
      | fail)
    go_ret3
    exact ⟨rfl, r6, ρ6, l6.up (by omega) (by omega), a6, m16⟩
theorem rv_open (h : RefAt w ρ R r) (hr : Rel d r k m) (hk : k ≤ 90000) (hm : m ≤ 900000) (hoff : d.off = false) (hby : DBy d) : Calls Tryz.prog 22 #[.pointer (some ⟨R, 0, none⟩)] w fun e w' => RO ρ R w d.openV (k + 3) (m + 44) e w' := by
  by_cases h1 : gO (lookI 0 (d.file 0).stands) < gO (lookI 1 (d.file 1).stands)
  · by_cases hz : gO (lookI 0 (d.file 0).stands) = 0
    · exact rv_open_1a h hr hk hm hoff hby hz h1
    · exact rv_open_1b h hr hk hm hoff hby hz h1
  · by_cases h0 : gO (lookI 0 (d.file 0).stands) = 0
    · exact rv_open_no h hr hk hm hoff hby h0 (by have := (gO_ge (okO 1 (d.file 1).stands)).1; omega)
    · exact rv_open_0 h hr hk hm hoff hby h0 h1
end
end Go.Proofs.YtfohemgfiidokaaGreatDoor
