/- The walk of VaultFull: its first loop. -/
import Derived.Test.YtfohemgfiidokaaDoorPf
namespace Go.Proofs.YtfohemgfiidokaaDoor
open Go.RowKit Go.Sort

theorem size_next (ls : List (List Int)) (q : Nat) (h : q < ls.length) : sizeI (ls.take (q + 1)) = sizeI (ls.take q) + ((ls[q]?.getD []).length + 36) := by
  rw [show ls.take (q + 1) = ls.take q ++ [ls[q]?.getD []] by rw [List.take_succ_eq_append_getElem h, List.getElem?_eq_getElem h]; rfl, sizeI_append]
  rfl
theorem addV_gen (d : Dk) (x : Va) (ms : List (List Int)) : (d.addV x ms).2.2.gen = x.gen := by
  unfold Dk.addV
  repeat (first | rfl | split)
theorem OwnL.keep {w0 w W : World} {A : List Nat} {D : Nat} {d : Dk} {o : Option (Nat × Va)} {R : List (Value × List (List Int))} {v : Value} {ls : List (List Int)} (h : OwnL w0 A w v ls) (hS : St w0 A D d o R w) (hb : RowKit.Below w.heap.size w W) : OwnL w0 A W v ls :=
  h.blocks fun a ha => hb.block a (by obtain ⟨ρ, _, _, h3, _⟩ := hS; exact (h3 a ha).1)
theorem OwnL.rdt {w0 w : World} {A : List Nat} {p : Option Addr} {cap : Nat} {ls : List (List Int)} (h : OwnL w0 A w (.slice p ls.length cap) ls) (hb : RowKit.Below w0.heap.size w0 w) (k : Nat) (hk : k ≤ ls.length) : RdL w (.slice p k cap) (ls.take k) := by
  obtain ⟨p', cap', e, _, _, ht⟩ := h.take hb
  cases e
  exact ht k hk
theorem OwnL.rdl {w0 w : World} {A : List Nat} {p : Option Addr} {cap : Nat} {ls : List (List Int)} (h : OwnL w0 A w (.slice p ls.length cap) ls) (hb : RowKit.Below w0.heap.size w0 w) : RdL w (.slice p ls.length cap) ls := by
  have := h.rdt hb ls.length (Nat.le_refl _)
  rwa [List.take_length] at this
theorem rdl_row {W : World} {g cap : Nat} {u : Value} {r : List Int} (h1 : 1 ≤ cap) (c0 : W.cell? ⟨g, 0, none⟩ = some u) (hu : RdB W u r) : RdL W (.slice (some ⟨g, 0, none⟩) 1 cap) [r] :=
  .inr ⟨_, g, 0, cap, rfl, h1, fun _ => rfl, fun j hj => by
    obtain rfl : j = 0 := by simp at hj; omega
    exact ⟨u, c0, hu⟩⟩
theorem size_len : ∀ ls : List (List Int), 36 * ls.length ≤ sizeI ls
  | [] => by simp [sizeI]
  | r :: t => by have := size_len t; simp only [sizeI, List.length_cons]; omega
theorem full_open {w0 w : World} {A : List Nat} {D j k m : Nat} {d : Dk} {o : Option (Nat × Va)} {x : Va} {R : List (Value × List (List Int))} {most : Int} {ls : List (List Int)} (hj : ls.length = j) (h : St w0 A D d o R w) (kp : Kept most d x ls k m) (hk : k ≤ 900000) (hm : m ≤ 9000000) (ht : KTab w0) : Calls Tryd.prog 11 #[.pointer (some ⟨D, 0, none⟩)] w fun e w' =>
    ∃ V p cap d1 x1, e = .returned (.tuple #[.pointer (some ⟨V, 0, none⟩), .slice p j cap, .int .i64 0]) ∧ StT w0 A D d1 (some (V, x1)) ((.slice p j cap, ls) :: R) w w' ∧ Kept most d1 x1 ls (k + 4) (m + 176) := by
  subst hj
  exact k_open h kp hk hm ht
/-- one round's Add -/
theorem full_add {w0 w : World} {A : List Nat} {D V : Nat} {d : Dk} {x : Va} {R : List (Value × List (List Int))} {most : Int} {ms : List (List Int)} {k m : Nat} (h : St w0 A D d (some (V, x)) R w) (kp : Kept most d x ms k m) (hk : k ≤ 900000) (hm : m ≤ 9000000) (ht : KTab w0) (hl : ms.length ≤ 1000) (v : Value) (r : List Int) (hv : RdL w v [r]) (hr : Bytes r) (hrl : r.length ≤ 32768) :
    Calls Tryd.prog 12 #[.pointer (some ⟨V, 0, none⟩), v] w fun e w' => ∃ c d' x', e = .returned (.int .i64 c) ∧ St w0 A D d' (some (V, x')) R w' ∧ w.heap.size ≤ w'.heap.size ∧ (∀ a, a ∈ A → w'.heap[a]? = w.heap[a]?) ∧ x'.gen = x.gen ∧
      ((roomF d < ((r.length + 36 : Nat) : Int) ∧ c = 7 ∧ roomF d' = roomF d ∧ Kept most d' x' ms (k + 4) (m + 4 * (44 + (r.length + 36)))) ∨ (((r.length + 36 : Nat) : Int) ≤ roomF d ∧ c = 0 ∧ Kept most d' x' (ms ++ [r]) (k + 4) (m + 4 * (44 + (r.length + 36))))) := by
  have hs1 : sizeI [r] = r.length + 36 := by simp [sizeI]
  have hok : RecOk [r] := fun q hq => by simp only [List.mem_singleton] at hq; subst hq; exact ⟨hr, hrl⟩
  have hc := st_add h kp.dg hk hm ht v [r] hv (fun q hq => (hok q hq).1) (by rw [hs1]; omega) (by simp) ⟨by rw [kp.live.n]; omega, by rw [kp.live.n]; omega⟩
  have hd := kp.dg.addV x [r] (fun q hq => (hok q hq).1)
  have hgen := addV_gen d x [r]
  rw [hs1] at hd
  refine hc.mono fun e w' ⟨he, hs, h2, h3⟩ => ⟨_, _, _, he, hs, h2, h3, hgen, ?_⟩
  rcases add_live kp.live kp.dg.sz [r] hok (by simp; omega) with ⟨h1, h2⟩ | ⟨h1, ⟨d', h2, h3, h4, h5⟩ | ⟨d', h2, h3, h4, -⟩⟩
  · rw [h2] at hd ⊢
    rw [hs1] at h1
    exact .inl ⟨h1, rfl, rfl, kp.live, kp.fu, kp.most_, hd⟩
  · rw [h2] at hd ⊢
    rw [hs1] at h1
    exact .inr ⟨h1, rfl, h3, by rw [h4]; exact kp.fu, by rw [h5]; exact kp.most_, hd⟩
  · rw [kp.fu] at h4; cases h4
set_option maxRecDepth 100000 in
set_option maxHeartbeats 1600000 in
theorem full_t (a b : Int) (ls : List (List Int)) (p : Option Addr) (cap : Nat) (w : World) (ha : 0 ≤ a) (ha2 : a ≤ 65535) (hb0 : 0 ≤ b) (hb1 : b ≤ 255) (hel : ∀ j, j < ls.length → ∃ g o u, p = some ⟨g, o, none⟩ ∧ w.cell? ⟨g, o + j, none⟩ = some u ∧ RdB w u (ls[j]?.getD [])) (hlb : ∀ r ∈ ls, Bytes r) (hll : ls.length ≤ 10000000000000) (hlr : ∀ r ∈ ls, r.length ≤ 1000000000000000) (ht : KTab w) :
    Calls Tryd.prog 4 #[.int .u16 a, .slice p ls.length cap, .int .u8 b] w fun e w' => e = .returned (.bool true) ∧ RowKit.Below w.heap.size w w' := by
  have HT := Lib.hid ht
  have HE := Lib.hid hel
  have HLB := Lib.hid hlb
  have HLR := Lib.hid hlr
  have HW := Lib.hid fun W (hb : RowKit.Below w.heap.size w W) => works_c W (ht.call hb)
  clear ht hel hlb hlr
  go_enter Tryd.func4, Tryd.ntmps4
  go_upto_region 3 with fail
  go_loopw [7, 8] (fun n i wr => ∃ q : Nat, q ≤ ls.length ∧ i = .int .i64 q ∧ n = .int .i64 (sizeI (ls.take q) : Nat) ∧ (0 < q → sizeI (ls.take (q - 1)) ≤ 8192) ∧ wr = w) (fun _ i _ => ls.length - (intOf i).toNat)
  case atStart => exact ⟨0, by omega, rfl, rfl, fun h => by omega, rfl⟩
  case round =>
    obtain ⟨q, hq, rfl, rfl, hpr, hwr⟩ := hrel
    obtain rfl := hwr.symm
    by_cases hbig : 8192 < sizeI (ls.take q)
    · have hd1 : decide ((8192 : Int) < (sizeI (ls.take q) : Nat)) = true := decide_eq_true (by omega)
      have hd2 : decide (((sizeI (ls.take q) : Nat) : Int) ≤ 8192) = false := decide_eq_false (by omega)
      clear hpr hbig
      generalize sizeI (ls.take q) = sz at *
      by_cases hlt : q < ls.length
      · go_wp2_with (go_at_call 9; with_reducible refine (HW.out _ (RowKit.Below.refl _ _)).mono ?_; rintro e w1 ⟨rfl, hb1⟩)
        go_ret
        exact ⟨rfl, hb1⟩
      · obtain rfl : q = ls.length := by omega
        go_wp2_with (go_at_call 9; with_reducible refine (HW.out _ (RowKit.Below.refl _ _)).mono ?_; rintro e w1 ⟨rfl, hb1⟩)
        go_ret
        exact ⟨rfl, hb1⟩
    · by_cases hlt : q < ls.length
      · obtain ⟨g, o, u, rfl, hcell, hrd⟩ := HE.out q hlt
        obtain ⟨a', c', rfl, hc'⟩ := hrd.shape
        have hnx := size_next ls q hlt
        have hrl : (ls[q]?.getD []).length ≤ 1000000000000000 := HLR.out _ (by rw [List.getElem?_eq_getElem hlt]; exact List.getElem_mem _)
        have hw1 : IntKind.i64.wrap ((sizeI (ls.take q) : Int) + 36) = (sizeI (ls.take q) : Int) + 36 := by rw [IntKind.wrap_i64]; omega
        have hw2 : IntKind.i64.wrap ((sizeI (ls.take q) : Int) + 36 + ((ls[q]?.getD []).length : Int)) = (sizeI (ls.take (q + 1)) : Int) := by rw [IntKind.wrap_i64]; omega
        generalize ls[q]?.getD [] = r at *
        go_wp2
        exact ⟨⟨q + 1, by omega, by go_num, by rw [hnx]; go_num, fun _ => by rw [Nat.add_sub_cancel]; omega, trivial⟩, by simp [intOf]; omega⟩
      · obtain rfl : q = ls.length := by omega
        rw [List.take_length] at hbig
        have hd3 : decide ((8192 : Int) < (sizeI ls : Nat)) = false := decide_eq_false (by omega)
        by_cases h44 : a < 44
        · have hd4 : decide (a < 44) = true := decide_eq_true h44
          rw [List.take_length]
          clear hpr h44
          go_wp2_with (go_at_call 9; with_reducible refine (HW.out _ (RowKit.Below.refl _ _)).mono ?_; rintro e w1 ⟨rfl, hb1⟩)
          go_ret
          exact ⟨rfl, hb1⟩
        · have hd4 : decide (a < 44) = false := decide_eq_false h44
          have hwa : IntKind.i64.wrap a = a := by rw [IntKind.wrap_i64]; omega
          rw [List.take_length]
          clear hpr
          have HN := Lib.hid (st_new a w (by omega) (by omega))
          go_upto_region 14 with (first
            | (go_at_call 10; (with_reducible refine HN.out.mono ?_); rintro e w1 ⟨rfl, s1⟩)
            | (go_at_call 11; (with_reducible refine (k_fresh (most := a) (by omega) (by omega) s1 HT.out).mono ?_); rintro e w2 ⟨V2, p2, q2, d2, rfl, ⟨s2, -⟩, k2⟩)
            | fail)
          go_loopw [14, 15, 16, 17] (fun al i rm xx W => ∃ (q : Nat) (A : List Nat) (d : Dk) (x : Va) (ms : List (List Int)), q ≤ ls.length ∧ i = .int .i64 q ∧ St w A w.heap.size d (some (V2, x)) [] W ∧ Kept a d x ms (4 + 4 * q) (176 + 4 * (44 * q + sizeI (ls.take q))) ∧ OwnL w A W al ms ∧ ms.length ≤ q ∧ sizeI ms ≤ sizeI (ls.take q) ∧ x.gen = 1) (fun _ i _ _ _ => ls.length - (intOf i).toNat)
          case atStart => exact ⟨0, [], d2, _, [], by omega, rfl, s2, k2, OwnL.nil _ _ _, Nat.le_refl _, Nat.le_refl _, rfl⟩
          case round =>
            obtain ⟨q, A, d, x, ms, hq, rfl, hS, hK, hO, hml, hms, hgn⟩ := hrel
            have hsl := size_len ls
            have hst := sizeI_take ls q
            by_cases hlt : q < ls.length
            · obtain ⟨g, o, u, rfl, hcell, hrd⟩ := HE.out q hlt
              obtain ⟨a', c', rfl, hc'⟩ := hrd.shape
              have hnx := size_next ls q hlt
              have hst1 := sizeI_take ls (q + 1)
              have hrb : Bytes (ls[q]?.getD []) := by rw [List.getElem?_eq_getElem hlt]; exact HLB.out _ (List.getElem_mem _)
              have HC := Lib.hid fun W (hb : RowKit.Below w.heap.size w W) => show W.cell? ⟨g, o + q, none⟩ = some (.slice a' (ls[q]?.getD []).length c') from (World.cell?_of_block (hb.block g (block_lt_of_cell hcell))).trans hcell
              have HR := Lib.hid hrd
              have hc0 := HC.out _ hS.below
              generalize ls[q]?.getD [] = r at *
              clear hcell hrd
              have HRM := Lib.hid (st_room hS (hK.dg.sz.ok (by omega) (by omega)))
              go_upto_region 18 with (first
                | (go_at_call 18; (with_reducible refine HRM.out.mono ?_); rintro e w3 ⟨rfl, b3⟩; have s3 := hS.keep b3; have c3 := HC.out _ s3.below; have o3 := hO.keep hS b3; have b4 := bel_alloc (RowKit.Below.refl w3.heap.size w3) (.cells #[.slice a' r.length c'] 35); have s4 := s3.keep b4; have o4 := o3.keep s3 b4; have r4 := rdl_row (cap := 1) (Nat.le_refl 1) (cell_of_row _ _ 0 _ _ _ (heap_alloc_new w3 (.cells #[.slice a' r.length c'] 35))) (HR.out.keep s4.below))
                | (go_at_call 12; (with_reducible refine (full_add s4 hK (by omega) (by omega) HT.out (by omega) _ r r4 hrb (by omega)).mono ?_); rintro e w5 ⟨c5, d5, x5, rfl, s5, z5, o5, g5, q5⟩; have o5 := o4.blocks o5; have c5' := HC.out _ s5.below)
                | fail)
              rcases q5 with ⟨h5, rfl, e5, k5⟩ | ⟨h5, rfl, k5⟩
              · have hd5 : decide (((r.length : Int) + 36) ≤ roomF d) = false := decide_eq_false (by omega)
                have hw5 : IntKind.i64.wrap ((r.length : Int) + 36) = (r.length : Int) + 36 := by rw [IntKind.wrap_i64]; omega
                have HRM2 := Lib.hid (st_room s5 (k5.dg.sz.ok (by omega) (by omega)))
                rw [e5] at HRM2
                generalize roomF d = rm at *
                go_wp2_with (first
                  | (go_at_call 18; (with_reducible refine HRM2.out.mono ?_); rintro e w6 ⟨rfl, b6⟩)
                  | fail)
                exact ⟨⟨q + 1, A, d5, x5, ms, by omega, by go_num, s5.keep b6, ⟨k5.live, k5.fu, k5.most_, k5.dg.up (by omega) (by omega)⟩, o5.keep s5 b6, by omega, by omega, by omega⟩, by simp [intOf]; omega⟩
              · have hd5 : decide (((r.length : Int) + 36) ≤ roomF d) = true := decide_eq_true (by omega)
                have hw5 : IntKind.i64.wrap ((r.length : Int) + 36) = (r.length : Int) + 36 := by rw [IntKind.wrap_i64]; omega
                generalize roomF d = rm at *
                obtain ⟨vs, ho, hel, hA⟩ := o5
                have hk1 : ∀ u ∈ [Value.slice a' r.length c'], u.oneCell' = true := by simp [Value.oneCell']
                have hk2 : ms.length + 1 ≤ maxLen := by unfold maxLen; omega
                have hk3 : (ms.length + 1) * 24 ≤ 140737488355328 := by omega
                have hk4 : w.heap.size ≤ (w5.alloc (.cells #[.slice a' r.length c'] 35)).heap.size := by have := s5.below.size; simp; omega
                obtain ⟨i0, hi, hz0, hz1, hz2⟩ := info_parts Tryd.info35
                have s6 := s5.keep (bel_alloc (RowKit.Below.refl w5.heap.size w5) (.cells #[.slice a' r.length c'] 35))
                go_wp2_with (first
                  | (at_builtin; go_loud (refine wpList_append_own_at _ rfl _ _ 30 rfl w.heap.size 35 i0 (.slice none 0 0) 1 24 Tryd.underlying30 hi hz0 hz1 hz2 rfl (by decide) _ ms.length vs rfl (ownsRow_alloc ho _) ⟨w5.heap.size, 0, none⟩ 1 1 [.slice a' r.length c'] rfl rfl (cell_one_new _ _ _) hk1 hk2 hk3 hk4 ?_); intro v7 w7 hown7 hgrow7 _ hat7)
                  | fail)
                obtain ⟨A7, s7, o7⟩ := OwnL.grow s6 (by have := ho.1; omega) hel hA HR.out hown7 hgrow7 (fun g7 e7 => by
                  rcases hat7 with h | h
                  · exact .inr (hA g7 (h ▸ e7))
                  · rw [h] at e7; cases e7; exact .inl ⟨Nat.le_refl _, by
                      rcases hown7.2 with ⟨-, h0⟩ | ⟨g8, cap8, cur8, rfl, -, h8, -⟩
                      · omega
                      · simp only [Value.ownBlock, Option.some.injEq] at h
                        subst h
                        exact (Array.getElem?_eq_some_iff.1 h8).1⟩)
                exact ⟨⟨q + 1, A7, d5, x5, ms ++ [r], by omega, by go_num, s7, ⟨k5.live, k5.fu, k5.most_, k5.dg.up (by omega) (by omega)⟩, o7, by simp; omega, by rw [sizeI_append, hnx]; simp only [sizeI]; omega, by omega⟩, by simp [intOf]; omega⟩
            · obtain rfl : q = ls.length := by omega
              rw [List.take_length] at hK hms
              obtain ⟨pa, ca, rfl, hcl, hpn, htk⟩ := hO.take hS.below
              have hwb : IntKind.i64.wrap b = b := by rw [IntKind.wrap_i64]; omega
              obtain ⟨K, hKe, hKl, hKb⟩ : ∃ K : Nat, (if (ms.length : Int) < b then (ms.length : Int) else b) = (K : Int) ∧ K ≤ ms.length ∧ K ≤ 255 := ⟨(min b (ms.length : Int)).toNat, by split <;> omega, by omega, by omega⟩
              have hall := htk ms.length (Nat.le_refl _)
              rw [List.take_length] at hall
              obtain ⟨a2, c2, e2, -, hel2⟩ := hall.shape
              cases e2
              have HL2 := Lib.hid hel2
              clear hel2
              go_upto_region 25 with fail
              go_loopw [19, 20] (fun sz i W => ∃ j : Nat, j ≤ K ∧ i = .int .i64 j ∧ sz = .int .i64 ((44 + sizeI (ms.take j) : Nat) : Int) ∧ W = wr) (fun _ i _ => K - (intOf i).toNat)
              case atStart => exact ⟨0, by omega, rfl, rfl, rfl⟩
              case round =>
                obtain ⟨j, hj, rfl, rfl, hwr⟩ := hrel
                obtain rfl := hwr.symm
                have hms2 := sizeI_take ms j
                by_cases hlt2 : j < K
                · obtain ⟨g, o, u, rfl, hcell, hrd⟩ := HL2.out j (by omega)
                  obtain ⟨a', c', rfl, hc'⟩ := hrd.shape
                  have hnx := size_next ms j (by omega)
                  have hms3 := sizeI_take ms (j + 1)
                  have hw1 : IntKind.i64.wrap (((44 + sizeI (ms.take j) : Nat) : Int) + 36) = ((44 + sizeI (ms.take j) : Nat) : Int) + 36 := by rw [IntKind.wrap_i64]; omega
                  have hw2 : IntKind.i64.wrap (((44 + sizeI (ms.take j) : Nat) : Int) + 36 + ((ms[j]?.getD []).length : Int)) = ((44 + sizeI (ms.take (j + 1)) : Nat) : Int) := by rw [IntKind.wrap_i64]; omega
                  have hsz1 : ((44 + sizeI (ms.take (j + 1)) : Nat) : Int) = ((44 + sizeI (ms.take j) : Nat) : Int) + 36 + ((ms[j]?.getD []).length : Int) := by omega
                  generalize 44 + sizeI (ms.take j) = sz at *
                  generalize hS1 : 44 + sizeI (ms.take (j + 1)) = sz1 at *
                  generalize ms[j]?.getD [] = r at *
                  go_wp2
                  exact ⟨⟨j + 1, by omega, by go_num, by go_num, trivial⟩, by simp [intOf]; omega⟩
                · obtain rfl : j = K := by omega
                  have hdg := hK.dg.sz.ok (by omega) (by omega)
                  have HRM := Lib.hid (st_room hS hdg)
                  have r8 := htk j hKl
                  have hcK : (j : Int) ≤ (ca : Int) := by omega
                  have hjl : (ms.take j).length = j := by rw [List.length_take]; omega
                  have HK := Lib.hid hK
                  have HO := Lib.hid hO
                  go_upto_region 30 with (first
                    | (go_at_call 18; (with_reducible refine HRM.out.mono ?_); rintro e w3 ⟨rfl, b3⟩; have s3 := hS.keep b3; have r3 := r8.keep b3; have o3 := hO.keep hS b3)
                    | (go_at_call 13; (with_reducible refine (k_comp s3 hK (by omega) (by omega) HT.out (by omega) _ (ms.take j) r3 (hK.live.rec_.take j) (by omega) (by omega)).mono ?_); rintro e w5 ⟨c5, d5, x5, rfl, ⟨s5, z5, l5⟩, q5⟩; have o5 := o3.blocks l5)
                    | fail)
                  have hsl2 := size_len ms
                  have hby : ∀ r ∈ ms, Bytes r := fun r hr => ((show ∀ r ∈ ms, Bytes r ∧ r.length ≤ 32768 from hK.live.rec_) r hr).1
                  have hrm := hK.live.room
                  rw [hK.most_] at hrm
                  rcases q5 with ⟨h5, rfl, rfl, k5⟩ | ⟨h5, rfl, k5⟩
                  · have hd5 : decide ((44 + (sizeI (ms.take j) : Int)) ≤ roomF d5) = false := decide_eq_false (by omega)
                    have HRM2 := Lib.hid (st_room s5 hdg)
                    have hrm6 : ∀ (d6 : Dk) (x6 : Va) (k6 m6 : Nat), Kept a d6 x6 ms k6 m6 → roomF d6 = roomF d5 := fun d6 x6 k6 m6 k => by rw [k.live.room, k.most_, hrm]
                    have hszb : 44 + sizeI (ms.take j) ≤ 44 + sizeI ms := by omega
                    have HRMX := Lib.hid hrm
                    clear HRM hrm
                    generalize roomF d5 = rm at *
                    go_wp2_with (first
                      | (go_at_call 18; (with_reducible refine HRM2.out.mono ?_); rintro e w6 ⟨rfl, b6⟩; have s6 := s5.keep b6; have o6 := o5.keep s5 b6)
                      | (go_at_call 11; (with_reducible refine (k_open s6 k5 (by omega) (by omega) HT.out).mono ?_); rintro e w7 ⟨V7, p7, q7, d7, x7, rfl, ⟨s7, z7, l7⟩, k7⟩; have o7 := o6.blocks l7; have r7 := s7.rdl (List.mem_cons_self ..); have t7 := o7.rdl s7.below; have e7 := hrm6 _ _ _ _ k7)
                      | (go_at_call 19; go_loud ((with_reducible refine (same_c _ _ ms ms _ r7 t7 hby hby (by omega)).mono ?_); rintro e w8 ⟨rfl, b8⟩; have s8 := s7.keep b8; have HRM8 := Lib.hid (st_room s8 (k7.dg.sz.ok (by omega) (by omega))); rw [e7] at HRM8))
                      | (go_at_call 18; (with_reducible refine HRM8.out.mono ?_); rintro e w9 ⟨rfl, b9⟩; have s9 := s8.keep b9)
                      | (go_at_call 9; (with_reducible refine (HW.out _ s9.below).mono ?_); rintro e w10 ⟨rfl, b10⟩; have b11 := bel_call s9.below b10)
                      | fail)
                    go_ret
                    exact ⟨rfl, b11⟩
                  · have hd5 : decide ((44 + (sizeI (ms.take j) : Int)) ≤ roomF d) = true := decide_eq_true (by omega)
                    have hwz : IntKind.i64.wrap (a - (44 + (sizeI (ms.take j) : Int))) = a - (44 + (sizeI (ms.take j) : Int)) := by rw [IntKind.wrap_i64]; omega
                    have hrm6 : ∀ (d6 : Dk) (x6 : Va) (k6 m6 : Nat), Kept a d6 x6 (ms.take j) k6 m6 → roomF d6 = a - (44 + (sizeI (ms.take j) : Int)) := fun d6 x6 k6 m6 k => by rw [k.live.room, k.most_]; omega
                    have hbt : ∀ r ∈ ms.take j, Bytes r := fun r hr => hby r (List.mem_of_mem_take hr)
                    have HJL := Lib.hid hjl
                    have HRMX := Lib.hid hrm
                    clear HRM hrm hjl
                    generalize roomF d = rm at *
                    go_wp2_with (first
                      | (go_at_call 11; (with_reducible refine (full_open HJL.out s5 k5 (by omega) (by omega) HT.out).mono ?_); rintro e w7 ⟨V7, p7, q7, d7, x7, rfl, ⟨s7, z7, l7⟩, k7⟩; have o7 := o5.blocks l7; have r7 := s7.rdl (List.mem_cons_self ..); have t7 := o7.rdt s7.below j hKl; have e7 := hrm6 _ _ _ _ k7)
                      | (go_at_call 19; go_loud ((with_reducible refine (same_c _ _ (ms.take j) (ms.take j) _ r7 t7 hbt hbt (by rw [HJL.out]; omega)).mono ?_); rintro e w8 ⟨rfl, b8⟩; have s8 := s7.keep b8; have HRM8 := Lib.hid (st_room s8 (k7.dg.sz.ok (by omega) (by omega))); rw [e7] at HRM8))
                      | (go_at_call 18; (with_reducible refine HRM8.out.mono ?_); rintro e w9 ⟨rfl, b9⟩; have s9 := s8.keep b9)
                      | (go_at_call 9; (with_reducible refine (HW.out _ s9.below).mono ?_); rintro e w10 ⟨rfl, b10⟩; have b11 := bel_call s9.below b10)
                      | fail)
                    go_ret
                    exact ⟨rfl, b11⟩
theorem full_w (a : Int) (v : Value) (ls : List (List Int)) (b : Int) (w : World) (ha : 0 ≤ a) (ha2 : a ≤ 65535) (hv : RdL w v ls) (hlb : ∀ l ∈ ls, Bytes l) (hll : ls.length ≤ 10000000000000) (hlr : ∀ l ∈ ls, l.length ≤ 1000000000000000) (hb0 : 0 ≤ b) (hb1 : b ≤ 255) (ht : KTab w) :
    Calls Tryd.prog 4 #[.int .u16 a, v, .int .u8 b] w fun e w' => e = .returned (.bool true) ∧ RowKit.Below w.heap.size w w' := by
  obtain ⟨p, cap, rfl, -, hel⟩ := hv.shape
  exact full_t a b ls p cap w ha ha2 hb0 hb1 hel hlb hll hlr ht
end Go.Proofs.YtfohemgfiidokaaDoor
