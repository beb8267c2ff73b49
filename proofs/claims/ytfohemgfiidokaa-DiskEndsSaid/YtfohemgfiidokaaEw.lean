/- The walk of DiskEnds. -/
import Derived.Test.YtfohemgfiidokaaEu
import Derived.Deep.Cut
namespace Go.Proofs.Ytfohemgfiidokaa.diskEnds
open Go.RowKit Go.Sort diskKeeps

theorem PkIn.keep {w W : World} {p : Option Addr} {len : Nat} {pk : Nat → Int} (h : PkIn w p len pk) (hb : Below w.heap.size w W) : PkIn W p len pk :=
  ⟨fun i hl => by obtain ⟨g, o, h1, h2⟩ := h.1 i hl; exact ⟨g, o, h1, by rw [hb.cell (block_lt_of_cell h2)]; exact h2⟩, h.2⟩
theorem ok_keep {w W : World} {s : StepD} (h : StepD.ok w s) (hb : Below w.heap.size w W) : StepD.ok W s :=
  ⟨h.a0, h.a1, h.f0, h.f1, h.n0, h.n1, h.b.keep hb, h.bl, PkIn.keep h.p hb, h.pz⟩
theorem steps_keep {w W : World} {p : Option Addr} {L : List StepD} (h : StepsIn w p L) (hb : Below w.heap.size w W) : StepsIn W p L := fun j hj => by
  obtain ⟨g, o, h1, h2, h3⟩ := h j hj
  exact ⟨g, o, h1, h2.keep hb, ok_keep h3 hb⟩
theorem var_new {w : World} (t : TypeId) (a b : List Int) : VarS (w.alloc (.cells #[.string (strOfNums a), .string (strOfNums b)] t)) w.heap.size (fun j => if j = 0 then a else b) := by
  refine ⟨fun j hj => ?_, fun j => by simp [go_sem]⟩
  rw [cell_of_row _ _ _ _ _ _ (heap_alloc_new _ _)]
  rcases j with _ | _ | j
  · rfl
  · rfl
  · omega
theorem pk2_new (lo : Nat) (w : World) (t : TypeId) (x : Int) (h0 : -9223372036854775808 ≤ x) (h1 : x ≤ 9223372036854775807) : PkM lo w.heap.size (w.alloc (.cells #[.int .i64 x, .int .i64 x] t)) (some ⟨w.heap.size, 0, none⟩) 2 (fun i => if i < 2 then x else 0) := by
  refine ⟨fun i hi hl => ⟨w.heap.size, 0, rfl, ?_, .inr (Nat.le_refl _)⟩, fun i hi hl => by omega, fun i hi => ?_, fun i hi => ?_⟩
  · rw [cell_of_row _ _ _ _ _ _ (heap_alloc_new _ _), Nat.zero_add]
    rcases i with _ | _ | i
    · rfl
    · rfl
    · omega
  · simp only [if_pos hi]; exact h0
  · simp only [if_pos hi]; exact h1
theorem pk2_nil (lo hi : Nat) (w : World) : PkM lo hi w none 0 (fun i => if i < 2 then 0 else 0) :=
  ⟨fun i _ hl => by omega, fun i hi _ => if_pos hi, fun i hi => by simp only [if_pos hi]; omega, fun i hi => by simp only [if_pos hi]; omega⟩
theorem tot_mem : ∀ (L : List StepD) (j : Nat) (h : j < L.length), L[j].B.length ≤ tot L
  | s :: t, 0, _ => by simp only [List.getElem_cons_zero, tot]; omega
  | s :: t, j + 1, h => by
    have := tot_mem t j (by simpa using h)
    simp only [List.getElem_cons_succ, tot]; omega

set_option maxRecDepth 100000 in
set_option maxHeartbeats 1600000 in
theorem walk (p1 p2 : Option Addr) (cap1 cap2 : Nat) (L1 L2 : List StepD) (w : World) (h1 : StepsIn w p1 L1) (z1 : L1.length ≤ 10000000000000) (h2 : StepsIn w p2 L2) (z2 : L2.length ≤ 10000000000000) :
    Calls Try.prog 5 #[.slice p1 L1.length cap1, .slice p2 L2.length cap2] w fun e w' => e = .returned (.bool true) ∧ Below w.heap.size w w' := by
  have kh1 := heavy_c p1 cap1 L1 w h1 z1
  have kh2 := fun W (hb : Below w.heap.size w W) => heavy_c p2 cap2 L2 W (steps_keep h2 hb) z2
  have HS := Lib.hid (And.intro h1 h2)
  clear h1 h2
  by_cases hv1 : 8192 < hvF 0 L1
  · rw [decide_eq_true hv1] at kh1
    go_enter Try.func5, Try.ntmps5
    go_wp2_with (first | (go_at_call 8; with_reducible refine kh1.mono ?_; rintro e w1 ⟨rfl, hb1⟩) | (go_at_call 9; refine (works_c _).mono ?_; rintro e w2 ⟨rfl, hb2⟩))
    go_ret
    exact ⟨rfl, bel_call hb1 hb2⟩
  rw [decide_eq_false hv1] at kh1
  by_cases hv2 : 8192 < hvF 0 L2
  · go_enter Try.func5, Try.ntmps5
    go_wp2_with fail
    refine kh1.mono ?_
    rintro e w1 ⟨rfl, hb1⟩
    have k2 := kh2 w1 hb1
    rw [decide_eq_true hv2] at k2
    go_wp2_with fail
    refine k2.mono ?_
    rintro e w2 ⟨rfl, hb2⟩
    go_wp2_with (go_at_call 9; refine (works_c _).mono ?_; rintro e w3 ⟨rfl, hb3⟩)
    go_ret
    exact ⟨rfl, bel_call (bel_call hb1 hb2) hb3⟩
  have t1 := hv_tot L1 0 (by omega)
  have t2 := hv_tot L2 0 (by omega)
  rw [Nat.zero_add] at t1 t2
  have l1 := blen_tot L1
  have l2 := blen_tot L2
  go_enter Try.func5, Try.ntmps5
  go_wp2_with fail
  refine kh1.mono ?_
  rintro e w1 ⟨rfl, hb1⟩
  have k2 := kh2 w1 hb1
  rw [decide_eq_false hv2] at k2
  clear hv1 hv2 kh1 kh2
  go_wp2_with fail
  refine k2.mono ?_
  rintro e w2 ⟨rfl, hb2⟩
  clear k2
  go_wp2_with fail
  have hbw := bel_call hb1 hb2
  have hwsz := hbw.size
  refine wp_gen (fun W => Below w.heap.size w W ∧ VarS W w2.heap.size (fun j => if j = 0 then [] else []) ∧ VarS W (w2.heap.size + 1) (fun j => if j = 0 then [] else []) ∧ W.heap.size = w2.heap.size + 2) ⟨bel_alloc (bel_alloc hbw _) _, ?_, ?_, by simp⟩ ?_
  · exact (var_new (w := w2) 41 [] []).keep (Below.heap_alloc _ _ _ (by simp))
  · have := var_new (w := w2.alloc (.cells #[.string ⟨#[]⟩, .string ⟨#[]⟩] 41)) 41 [] []
    rw [show (w2.alloc (.cells #[.string ⟨#[]⟩, .string ⟨#[]⟩] 41)).heap.size = w2.heap.size + 1 by simp] at this
    exact this
  rintro W0 ⟨hbW, hva, hvn, hsz⟩
  clear hb1 hb2 hbw
  generalize w2.heap.size = A at *
  go_loopw [7] (fun yv wr => ∃ (y : Nat) (av nv : Nat → List Int), y ≤ 2 ∧ yv = .int .i64 y ∧ Below w.heap.size w wr ∧ VarS wr A av ∧ VarS wr (A + 1) nv ∧ A + 2 ≤ wr.heap.size) (fun y _ => 2 - (intOf y).toNat)
  case atStart => exact ⟨0, _, _, by omega, rfl, hbW, hva, hvn, by omega⟩
  case round =>
    clear hbW hva hvn hsz
    obtain ⟨y, av, nv, hy, rfl, hbW, hva, hvn, hsz⟩ := hrel
    obtain ⟨wo, rfl⟩ : ∃ wo : World, wo = wr := ⟨_, rfl⟩
    by_cases hy2 : y < 2
    · have y0 : (0 : Int) ≤ y := by omega
      have y1 : (y : Int) < 2 := by omega
      have kn := nowv_new 4096 (A := [A + 1, A]) hbW (fun a ha => by
        simp only [List.mem_cons, List.not_mem_nil, or_false] at ha
        rcases ha with rfl | rfl
        · exact ⟨by omega, by omega⟩
        · exact ⟨by omega, by omega⟩) (by omega) (by omega)
      go_wp2_with fail
      refine kn.mono ?_
      rintro e w3 ⟨rfl, hn, hs3, hA3⟩
      have hva3 := hva.keep (hA3 A (by simp))
      have hvn3 := hvn.keep (hA3 (A + 1) (by simp))
      clear kn hva hvn hA3 hs3
      generalize wo.heap.size = D at *
      clear hbW
      go_wp2_with fail
      go_loopw [10] (fun iv wr => ∃ k : Nat, k ≤ L1.length ∧ iv = .int .i64 k ∧ NowV w [A + 1, A] D ((L1.take k).foldl chg (dk0 4096)) wr ∧ VarS wr A av ∧ VarS wr (A + 1) nv) (fun i _ => L1.length - (intOf i).toNat)
      case atStart => exact ⟨0, by omega, rfl, hn, hva3, hvn3⟩
      case round =>
        clear hn hva3 hvn3
        obtain ⟨k, hk, rfl, hn, hva, hvn⟩ := hrel
        obtain ⟨wp, rfl⟩ : ∃ wp : World, wp = wr := ⟨_, rfl⟩
        by_cases hkl : k < L1.length
        · have k0 : (0 : Int) ≤ k := by omega
          have k1 : (k : Int) < L1.length := by omega
          obtain ⟨g, o, rfl, hc, hok⟩ := HS.out.1 k hkl
          obtain ⟨c0, c1, c2, c3, c4⟩ := hc.keep hn.below
          have ei0 : EI (dk0 4096) 0 0 := ⟨rfl, rfl, rfl, fun f => by rcases f with _ | f <;> simp [dk0, Dk.file, sizes], fun f => by rcases f with _ | f <;> simp [dk0, Dk.file]⟩
          have ei := (ei0.fold (L1.take k)).1
          have lt := blen_take L1 k
          have kc := change_c hn (ei.ok (by rw [List.length_take]; omega) (by omega)) L1[k] hok hn.below (Nat.le_refl _) (by have := tot_mem L1 k hkl; omega)
          rw [← fold_snoc L1 _ k hkl] at kc
          unfold StepD.val at kc
          have KC := Lib.hid kc
          clear kc ei lt ei0 hc hok
          go_wp2_with fail
          refine KC.out.mono ?_
          rintro e w4 ⟨rfl, hn4, hs4, hA4⟩
          go_wp2_with fail
          go_roundw
          case rel => exact ⟨k + 1, by omega, by go_num, hn4, hva.keep (hA4 A (by simp)), hvn.keep (hA4 (A + 1) (by simp))⟩
          case measure => simp [intOf]; omega
        · have hkk : k = L1.length := by omega
          subst hkk
          rw [List.take_length] at hn
          go_wp2_with fail
          have ei0 : EI (dk0 4096) 0 0 := ⟨rfl, rfl, rfl, fun f => by rcases f with _ | f <;> simp [dk0, Dk.file, sizes], fun f => by rcases f with _ | f <;> simp [dk0, Dk.file]⟩
          have ei1 : EI (L1.foldl chg (dk0 4096)) 8192 8192 := (ei0.fold L1).1.up (by omega) (by omega)
          generalize L1.foldl chg (dk0 4096) = da at hn ei1
          have EI1 := Lib.hid ei1
          clear ei0 ei1
          go_loopw [11] (fun fv wr => ∃ (f : Nat) (dd : Dk) (nv : Nat → List Int), f ≤ 2 ∧ fv = .int .i64 f ∧ NowV w [A + 1, A] D dd wr ∧ EI dd 8192 8192 ∧ VarS wr A av ∧ VarS wr (A + 1) nv ∧ ∀ j, j < f → dd.file j = ⟨nv j, []⟩) (fun f _ => 2 - (intOf f).toNat)
          case atStart => exact ⟨0, da, nv, by omega, rfl, hn, EI1.out, hva, hvn, fun j hj => by omega⟩
          case round =>
            clear hn hva hvn
            obtain ⟨f, dd, nv, hf, rfl, hn, ei, hva, hvn, hfl⟩ := hrel
            obtain ⟨wq, rfl⟩ : ∃ wq : World, wq = wr := ⟨_, rfl⟩
            have HFL := Lib.hid hfl
            have HEI := Lib.hid ei
            clear hfl ei
            by_cases hf2 : f < 2
            · have f0 : (0 : Int) ≤ f := by omega
              have f1 : (f : Int) < 2 := by omega
              obtain ⟨dn, es, en, ef, eo⟩ := HEI.out.sync f hf2
              have ks := nowv_sync hn (HEI.out.ok (by omega) (by omega)) f es
              have HD := Lib.hid (And.intro en (And.intro ef eo))
              clear es en ef eo
              go_wp2_with fail
              refine ks.mono ?_
              rintro e w4 ⟨rfl, hn4, hs4, hA4⟩
              have hva4 := hva.keep (hA4 A (by simp))
              have hvn4 := hvn.keep (hA4 (A + 1) (by simp))
              have kr := nowv_read hn4 (HD.out.1.ok (by omega) (by omega)) HD.out.1.off f hf2
              clear ks hva hvn hA4 hs4 hn
              go_wp2_with fail
              refine kr.mono ?_
              rintro e w5 ⟨v5, rfl, hr5, hb5, hn5, hs5, hA5⟩
              have hcv := own_text hr5
              have hva5 := hva4.keep (hA5 A (by simp))
              have hvn5 := hvn4.keep (hA5 (A + 1) (by simp))
              have hcn : w5.cell? ⟨A + 1, f, none⟩ = some (.string (strOfNums (nv f))) := hvn5.1 f hf2
              have hzn := hvn5.2 f
              clear kr hva4 hvn4 hA5 hs5 hn4 hr5
              go_wp2_with fail
              go_roundw
              case rel =>
                refine ⟨f + 1, dn, upd nv f (dn.file f).stands, by omega, by go_num, hn5.set (by simp) f _, HD.out.1, hva5.keep (set_heap (by omega)), hvn5.set hf2, fun j hj => ?_⟩
                unfold upd
                by_cases e : j = f
                · subst e
                  rw [if_pos rfl, HD.out.2.1]
                  rfl
                · rw [if_neg e, HD.out.2.2 j (by omega) e]
                  exact HFL.out j (by omega)
              case measure => simp [intOf]; omega
            · have hff : 2 ≤ f := by omega
              have hff' : ¬ (f : Int) < 2 := by omega
              go_wp2_with fail
              go_loopw [14] (fun iv wr => ∃ k : Nat, k ≤ L2.length ∧ iv = .int .i64 k ∧ NowV w [A + 1, A] D ((L2.take k).foldl chg dd) wr ∧ VarS wr A av ∧ VarS wr (A + 1) nv) (fun i _ => L2.length - (intOf i).toNat)
              case atStart => exact ⟨0, by omega, rfl, hn, hva, hvn⟩
              case round =>
                clear hn hva hvn
                obtain ⟨k, hk, rfl, hn, hva, hvn⟩ := hrel
                obtain ⟨wu, rfl⟩ : ∃ wu : World, wu = wr := ⟨_, rfl⟩
                by_cases hkl : k < L2.length
                · have k0 : (0 : Int) ≤ k := by omega
                  have k1 : (k : Int) < L2.length := by omega
                  obtain ⟨g, o, rfl, hc, hok⟩ := HS.out.2 k hkl
                  obtain ⟨c0, c1, c2, c3, c4⟩ := hc.keep hn.below
                  have ei := (HEI.out.fold (L2.take k)).1
                  have lt := blen_take L2 k
                  have kc := change_c hn (ei.ok (by rw [List.length_take]; omega) (by omega)) L2[k] hok hn.below (Nat.le_refl _) (by have := tot_mem L2 k hkl; omega)
                  rw [← fold_snoc L2 _ k hkl] at kc
                  unfold StepD.val at kc
                  have KC := Lib.hid kc
                  clear kc ei lt hc hok
                  go_wp2_with fail
                  refine KC.out.mono ?_
                  rintro e w4 ⟨rfl, hn4, hs4, hA4⟩
                  go_wp2_with fail
                  go_roundw
                  case rel => exact ⟨k + 1, by omega, by go_num, hn4, hva.keep (hA4 A (by simp)), hvn.keep (hA4 (A + 1) (by simp))⟩
                  case measure => simp [intOf]; omega
                · have hkk : k = L2.length := by omega
                  subst hkk
                  rw [List.take_length] at hn
                  have eid : EI (L2.foldl chg dd) 16384 16384 ∧ ∀ j, j < 2 → ((L2.foldl chg dd).file j).s = nv j := ⟨(HEI.out.fold L2).1.up (by omega) (by omega), fun j hj => by rw [(HEI.out.fold L2).2 j, HFL.out j (by omega)]⟩
                  generalize L2.foldl chg dd = db at hn eid
                  have HB := Lib.hid eid
                  clear eid HEI HFL
                  go_wp2_with fail
                  go_loopw [15] (fun fv wr => ∃ (f : Nat) (av : Nat → List Int), f ≤ 2 ∧ fv = .int .i64 f ∧ NowV w [A + 1, A] D db wr ∧ VarS wr A av ∧ VarS wr (A + 1) nv ∧ ∀ j, j < f → (db.file j).stands = av j) (fun f _ => 2 - (intOf f).toNat)
                  case atStart => exact ⟨0, av, by omega, rfl, hn, hva, hvn, fun j hj => by omega⟩
                  case round =>
                    clear hn hva hvn
                    obtain ⟨f, av, hf, rfl, hn, hva, hvn, hfl⟩ := hrel
                    obtain ⟨wx, rfl⟩ : ∃ wx : World, wx = wr := ⟨_, rfl⟩
                    have HFL := Lib.hid hfl
                    clear hfl
                    by_cases hf2 : f < 2
                    · have f0 : (0 : Int) ≤ f := by omega
                      have f1 : (f : Int) < 2 := by omega
                      have kr := nowv_read hn (HB.out.1.ok (by omega) (by omega)) HB.out.1.off f hf2
                      go_wp2_with fail
                      refine kr.mono ?_
                      rintro e w5 ⟨v5, rfl, hr5, hb5, hn5, hs5, hA5⟩
                      have hcv := own_text hr5
                      have hva5 := hva.keep (hA5 A (by simp))
                      have hvn5 := hvn.keep (hA5 (A + 1) (by simp))
                      have hcn : w5.cell? ⟨A, f, none⟩ = some (.string (strOfNums (av f))) := hva5.1 f hf2
                      have hzn := hva5.2 f
                      clear kr hva hvn hA5 hs5 hn hr5
                      go_wp2_with fail
                      go_roundw
                      case rel =>
                        refine ⟨f + 1, upd av f (db.file f).stands, by omega, by go_num, hn5.set (a := A) (by simp) f _, hva5.set hf2, hvn5.keep (set_heap (D := A) (g := A + 1) (by omega)), fun j hj => ?_⟩
                        unfold upd
                        by_cases e : j = f
                        · subst e
                          rw [if_pos rfl]
                        · rw [if_neg e]
                          exact HFL.out j (by omega)
                      case measure => simp [intOf]; omega
                    · have hff2 : 2 ≤ f := by omega
                      have hff2' : ¬ (f : Int) < 2 := by omega
                      go_wp2_with fail
                      refine (nowv_off hn (r := 0) (d' := { db with off := true }) (by unfold Dk.offc; rw [HB.out.1.off]; rfl)).mono ?_
                      rintro e w6 ⟨rfl, hn6, hs6, hA6⟩
                      have hva6 := hva.keep (hA6 A (by simp))
                      have hvn6 := hvn.keep (hA6 (A + 1) (by simp))
                      clear hva hvn hA6 hs6 hn
                      have ca0 := hva6.1 0 (by omega)
                      have ca1 := hva6.1 1 (by omega)
                      have cn0 := hvn6.1 0 (by omega)
                      have cn1 := hvn6.1 1 (by omega)
                      have hnA := hn6.alloc (.cells #[.string (strOfNums (av 0)), .string (strOfNums (av 1))] 41)
                      have hvA := var_new (w := w6) 41 (av 0) (av 1)
                      have haA := hva6.keep (Below.heap_alloc w6 (.cells #[.string (strOfNums (av 0)), .string (strOfNums (av 1))] 41) A (NowV.lt hn6 (by simp)))
                      have hnnA := hvn6.keep (Below.heap_alloc w6 (.cells #[.string (strOfNums (av 0)), .string (strOfNums (av 1))] 41) (A + 1) (NowV.lt hn6 (by simp)))
                      have hbo : DOk ({ db with off := true } : Dk) := HB.out.1.ok (by omega) (by omega)
                      by_cases hyz : y = 0
                      · have hyz' : ((y : Int) == 0) = true := beq_iff_eq.2 (by omega)
                        have ko := nowv_on hnA (bel_alloc (Below.refl _ _) (.cells #[.int .i64 1073741824, .int .i64 1073741824] 3)) hbo _ 2 2 _ (pk2_new _ _ 3 1073741824 (by omega) (by omega)) (on_end db 1073741824)
                        rw [show (w6.alloc (.cells #[.string (strOfNums (av 0)), .string (strOfNums (av 1))] 41)).heap.size = w6.heap.size + 1 by simp] at ko
                        have KO := Lib.hid ko
                        have e0 := HB.out.1.endAll (by omega) (by omega) 0
                        have e1 := HB.out.1.endAll (by omega) (by omega) 1
                        rw [HFL.out 0 (by omega)] at e0
                        rw [HFL.out 1 (by omega)] at e1
                        have HEE := Lib.hid (And.intro e0 e1)
                        have hz7 : w6.heap.size ≤ (w6.alloc (.cells #[.string (strOfNums (av 0)), .string (strOfNums (av 1))] 41)).heap.size := by simp
                        clear ko hyz e0 e1 ca0 ca1 cn0 cn1
                        have ca0 := hva6.1 0 (by omega)
                        have ca1 := hva6.1 1 (by omega)
                        go_wp2_with fail
                        refine KO.out.mono ?_
                        rintro e w8 ⟨rfl, hn8, hs8, hA8⟩
                        have hq : ∀ b, b < w6.heap.size + 1 → ((w6.alloc (.cells #[.string (strOfNums (av 0)), .string (strOfNums (av 1))] 41)).alloc (.cells #[.int .i64 1073741824, .int .i64 1073741824] 3)).heap[b]? = (w6.alloc (.cells #[.string (strOfNums (av 0)), .string (strOfNums (av 1))] 41)).heap[b]? := fun b hb => Below.heap_alloc _ _ b (by simp; omega)
                        have hlA := NowV.lt hn6 (a := A) (by simp)
                        have hlN := NowV.lt hn6 (a := A + 1) (by simp)
                        have hv8 := hvA.keep ((hA8 w6.heap.size (by simp)).trans (hq _ (by omega)))
                        have ha8 := haA.keep ((hA8 A (by simp)).trans (hq _ (by omega)))
                        have hn8' := hnnA.keep ((hA8 (A + 1) (by simp)).trans (hq _ (by omega)))
                        have cv0 : w8.cell? ⟨w6.heap.size, 0, none⟩ = some (.string (strOfNums (av 0))) := hv8.1 0 (by omega)
                        have cv1 : w8.cell? ⟨w6.heap.size, 1, none⟩ = some (.string (strOfNums (av 1))) := hv8.1 1 (by omega)
                        have hok8 := HB.out.1.endOk (by omega) 1073741824
                        have ks0 := nowv_stands0 hn8 hok8 rfl (strOfNums (av 0)) (r := true) (by rw [HEE.out.1]; simp)
                        clear hq hA8 hs8 hvA haA hnnA hnA hva6 hvn6 KO ca0 ca1
                        generalize w6.heap.size = V at *
                        go_wp2_with fail
                        refine ks0.mono ?_
                        rintro e w9 ⟨rfl, hn9, hs9, hA9⟩
                        have hv9 := hv8.keep (hA9 V (by simp))
                        have cw1 : w9.cell? ⟨V, 1, none⟩ = some (.string (strOfNums (av 1))) := hv9.1 1 (by omega)
                        have ks1 := nowv_stands1 hn9 hok8 rfl (strOfNums (av 1)) (r := true) (by rw [HEE.out.2]; simp)
                        clear ks0
                        go_wp2_with fail
                        refine ks1.mono ?_
                        rintro e w10 ⟨rfl, hn10, hs10, hA10⟩
                        clear ks1
                        go_wp2_with fail
                        go_roundw
                        case rel => exact ⟨y + 1, av, nv, by omega, by go_num, hn10.below, ha8.keep ((hA10 A (by simp)).trans (hA9 A (by simp))), hn8'.keep ((hA10 (A + 1) (by simp)).trans (hA9 (A + 1) (by simp))), by have := NowV.lt hn10 (a := A + 1) (by simp); omega⟩
                        case measure => simp [intOf]; omega
                      · have hyz' : ((y : Int) == 0) = false := beq_false_of_ne (by omega)
                        have KO := Lib.hid (nowv_on hnA (Below.refl _ _) hbo none 0 0 _ (pk2_nil _ _ _) (on_end db 0))
                        have e0 := end_none db 0
                        have e1 := end_none db 1
                        rw [HB.out.2 0 (by omega)] at e0
                        rw [HB.out.2 1 (by omega)] at e1
                        have HEE := Lib.hid (And.intro e0 e1)
                        clear hyz e0 e1 cn0 cn1
                        go_wp2_with fail
                        refine KO.out.mono ?_
                        rintro e w8 ⟨rfl, hn8, hs8, hA8⟩
                        have hv8 := hvA.keep (hA8 w6.heap.size (by simp))
                        have ha8 := haA.keep (hA8 A (by simp))
                        have hn8' := hnnA.keep (hA8 (A + 1) (by simp))
                        have cv0 := hv8.1 0 (by omega)
                        have cv1 := hv8.1 1 (by omega)
                        have zv0 := hv8.2 0
                        have zv1 := hv8.2 1
                        have cn0 := hn8'.1 0 (by omega)
                        have cn1 := hn8'.1 1 (by omega)
                        have hlV : A + 1 < w6.heap.size := NowV.lt hn6 (by simp)
                        have hok8 := HB.out.1.endOk (by omega) 0
                        clear hA8 hs8 hvA haA hnnA hnA hva6 hvn6 KO ca0 ca1
                        generalize w6.heap.size = V at *
                        go_wp2_with fail
                        have hn9 := (hn8.set (a := V) (by simp) 0 (.string (strOfNums (nv 0)))).set (a := V) (by simp) 1 (.string (strOfNums (nv 1)))
                        have hv9 := (hv8.set (x := nv 0) (F := 0) (by omega)).set (x := nv 1) (F := 1) (by omega)
                        have ha9 := ha8.keep ((set_heap (w := w8.setCell ⟨V, 0, none⟩ (.string (strOfNums (nv 0)))) (D := V) (o := 1) (v := .string (strOfNums (nv 1))) (g := A) (by omega)).trans (set_heap (D := V) (o := 0) (v := .string (strOfNums (nv 0))) (g := A) (by omega)))
                        have hm9 := hn8'.keep ((set_heap (w := w8.setCell ⟨V, 0, none⟩ (.string (strOfNums (nv 0)))) (D := V) (o := 1) (v := .string (strOfNums (nv 1))) (g := A + 1) (by omega)).trans (set_heap (D := V) (o := 0) (v := .string (strOfNums (nv 0))) (g := A + 1) (by omega)))
                        have ks0 := nowv_stands0 hn9 hok8 rfl (strOfNums (nv 0)) (r := true) (by rw [HEE.out.1]; simp)
                        clear hn8 hv8 ha8 hn8' cv0 cv1 zv0 zv1 cn0 cn1
                        refine ks0.mono ?_
                        rintro e w9 ⟨rfl, hn9', hs9, hA9⟩
                        have cw1 : w9.cell? ⟨V, 1, none⟩ = some (.string (strOfNums (nv 1))) := (hv9.keep (hA9 V (by simp))).1 1 (by omega)
                        have ks1 := nowv_stands1 hn9' hok8 rfl (strOfNums (nv 1)) (r := true) (by rw [HEE.out.2]; simp)
                        clear ks0
                        go_wp2_with fail
                        refine ks1.mono ?_
                        rintro e w10 ⟨rfl, hn10, hs10, hA10⟩
                        clear ks1
                        go_wp2_with fail
                        go_roundw
                        case rel => exact ⟨y + 1, av, nv, by omega, by go_num, hn10.below, ha9.keep ((hA10 A (by simp)).trans (hA9 A (by simp))), hm9.keep ((hA10 (A + 1) (by simp)).trans (hA9 (A + 1) (by simp))), by have := NowV.lt hn10 (a := A + 1) (by simp); omega⟩
                        case measure => simp [intOf]; omega
    · have hyy : y = 2 := by omega
      subst hyy
      go_wp2_with (go_at_call 9; refine (works_c _).mono ?_; rintro e w7 ⟨rfl, hb7⟩)
      go_ret
      exact ⟨rfl, bel_call hbW hb7⟩
end Go.Proofs.Ytfohemgfiidokaa.diskEnds
