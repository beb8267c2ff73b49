/- The walk of VaultKeeps. -/
import Derived.Test.YtfohemgfiidokaaDoorKe
namespace Go.Proofs.YtfohemgfiidokaaDoor
open Go.RowKit Go.Sort

set_option maxRecDepth 100000 in
set_option maxHeartbeats 4000000 in
theorem keeps_t (L : List StepV) (p0 : Option Addr) (cap : Nat) (w : World) (hs : StepsIn w p0 L) (hl : L.length ≤ 10000000000000) (ht : KTab w) :
    Calls Tryd.prog 3 #[.slice p0 L.length cap] w fun e w' => e = .returned (.bool true) ∧ RowKit.Below w.heap.size w w' := by
  have HT := Lib.hid ht
  have HS := Lib.hid hs
  have HW := Lib.hid fun W (hb : RowKit.Below w.heap.size w W) => works_c W (ht.call hb)
  have HH := Lib.hid (heavy_c p0 cap L w hs hl)
  clear ht hs
  go_enter Tryd.func3, Tryd.ntmps3
  go_upto_region 1 with fail
  go_wp2_with (first
    | (go_at_call 8; (with_reducible refine HH.out.mono ?_); rintro e w1 ⟨b, rfl, hb, b1⟩; have HB := Lib.hid hb; clear hb; cases b)
    | fail)
  · have htot := HB.out trivial
    have hN := Lib.hid (st_new 32768 w1 (by omega) (by omega))
    have hT1 := Lib.hid (HT.out.call b1)
    have HB1 := Lib.hid b1
    clear HB
    go_upto_region 9 with (first
      | (go_at_call 10; (with_reducible refine hN.out.mono ?_); rintro e w2 ⟨rfl, s1⟩)
      | (go_at_call 11; (with_reducible refine (k_fresh (most := 32768) (by omega) (by omega) s1 hT1.out).mono ?_); rintro e w3 ⟨V2, p2, q2, d2, rfl, ⟨s2, -⟩, k2⟩)
      | fail)
    have s3 := s2.alloc (.cells #[.slice none 0 0, .slice none 0 0, .slice none 0 0, .bool false] 34)
    have hP : (w3.alloc (.cells #[.slice none 0 0, .slice none 0 0, .slice none 0 0, .bool false] 34)).heap[w3.heap.size]? = _ := heap_alloc_new _ _
    have hK0 : KInv w1 L w1.heap.size w3.heap.size 0 (.pointer (some ⟨V2, 0, none⟩)) (w3.alloc (.cells #[.slice none 0 0, .slice none 0 0, .slice none 0 0, .bool false] 34)) :=
      ⟨_, d2, some (V2, _), .sure [], _, _, _, rfl, ((s3.add (.slice none 0 0) [] fun _ _ => .inl ⟨rfl, rfl⟩).add (.slice none 0 0) [] fun _ _ => .inl ⟨rfl, rfl⟩).add (.slice none 0 0) [] fun _ _ => .inl ⟨rfl, rfl⟩, List.mem_cons_self .., ⟨hP⟩, .inl ⟨V2, _, rfl, k2.live, rfl⟩, k2.dg, .sure recOk_nil (Nat.zero_le _)⟩
    have HK0 := Lib.hid hK0
    clear hK0 hP s3 s2 k2
    generalize w3.alloc (.cells #[.slice none 0 0, .slice none 0 0, .slice none 0 0, .bool false] 34) = w4 at *
    generalize w3.heap.size = P at *
    go_loopw [5, 9, 10, 11, 12, 13, 14, 15] (fun vv iv b1 b2 b3 b4 b5 b6 W => ∃ q : Nat, q ≤ L.length ∧ iv = .int .i64 q ∧ KInv w1 L w1.heap.size P q vv W) (fun _ iv _ _ _ _ _ _ _ => L.length - (intOf iv).toNat)
    case atStart => exact ⟨0, by omega, rfl, HK0.out⟩
    case round =>
      clear HK0
      obtain ⟨q, hq, rfl, hK⟩ := hrel
      obtain ⟨A, d, o, p, va, vb, vc, rfl, hS, hPA, hP, hR, hG, hz⟩ := hK
      by_cases hlt : q < L.length
      · obtain ⟨g, of, rfl, hc, hok⟩ := HS.out q hlt
        have hnx := totV_next L q hlt
        have htk := totV_take L (q + 1)
        have hss := hok.s (by omega)
        generalize L[q] = s at *
        have hstep : stepT s + totV (L.take q) ≤ 16384 := by omega
        have hq5 := totV_len (L.take q)
        rw [List.length_take, Nat.min_eq_left (by omega)] at hq5
        have hszb : sizeI s.L ≤ 3 * stepT s := hss.sz
        have hlnb : s.L.length ≤ stepT s := hss.len
        have hst0 : 32 ≤ stepT s := hss.pos
        generalize stepT s = T at *
        obtain ⟨a, lv, Ls, da, F, N, bv, B, pp, pl, pc, pk⟩ := s
        obtain ⟨pb, cb, hbv, -⟩ := hok.b.shape
        obtain ⟨pr, cr, hlv, hcr, -⟩ := hok.l.shape
        simp only at hbv hlv hszb hlnb
        subst hbv hlv
        obtain ⟨c0, c1, c2, c3, c4, c5, c6⟩ := (hc.keep HB1.out).keep (bel_call (RowKit.Below.refl _ _) hS.below)
        simp only at c0 c1 c2 c3 c4 c5 c6
        have hok0 : 0 ≤ a := hok.a0
        have HOK := Lib.hid hok; have HSS := Lib.hid hss; have HC := Lib.hid hc
        clear hok hss hc
        have hS1 := hS.alloc (.cells #[.int .u8 a, .slice pr Ls.length cr, .int .u8 da, .int .i64 F, .int .i64 N, .slice pb B.length cb, .slice pp pl pc] 40)
        have hPl : P < wr.heap.size := (Array.getElem?_eq_some_iff.1 hP.blk).1
        have hP1 := hP.keep ((bel_alloc (RowKit.Below.refl wr.heap.size wr) (.cells #[.int .u8 a, .slice pr Ls.length cr, .int .u8 da, .int .i64 F, .int .i64 N, .slice pb B.length cb, .slice pp pl pc] 40)).block P hPl)
        have hSB := heap_alloc_new wr (.cells #[.int .u8 a, .slice pr Ls.length cr, .int .u8 da, .int .i64 F, .int .i64 N, .slice pb B.length cb, .slice pp pl pc] 40)
        have HS1 := Lib.hid hS1; have HP1 := Lib.hid hP1; have HSB := Lib.hid hSB
        have HPA := Lib.hid hPA; have HR := Lib.hid hR; have HG := Lib.hid hG; have HZ := Lib.hid hz; have HX := Lib.hid hnx; have HTK := Lib.hid htk
        clear hS1 hP1 hSB hPA hR hG hz hnx htk hS hP
        go_upto_region 12 with fail
        generalize wr.alloc (.cells #[.int .u8 a, .slice pr Ls.length cr, .int .u8 da, .int .i64 F, .int .i64 N, .slice pb B.length cb, .slice pp pl pc] 40) = W1 at *
        have hPS : P ≠ wr.heap.size := by omega
        clear c0 c1 c2 c3 c4 c5 c6 hPl
        generalize wr.heap.size = S at *
        obtain ⟨c0, c1, c4, c6⟩ := sobj_cells (s := ⟨a, .slice pr Ls.length cr, Ls, da, F, N, .slice pb B.length cb, B, pp, pl, pc, pk⟩) HSB.out
        simp only at c0 c1 c4 c6
        go_upto_region 14 with fail
        have hz6 : a % 6 = 0 ∨ a % 6 = 1 ∨ a % 6 = 2 ∨ a % 6 = 3 ∨ a % 6 = 4 ∨ a % 6 = 5 := by omega
        generalize a % 6 = z at *
        rcases hz6 with rfl | rfl | rfl | rfl | rfl | rfl
        · have hv1 := (HSS.out.l.keep HB1.out).keep (bel_call (RowKit.Below.refl _ _) HS1.out.below)
          go_upto_region 18 with (first
            | (go_at_call 12; go_loud ((with_reducible refine (p_add HS1.out HR.out HG.out (by omega) (by omega) hT1.out (by have := HZ.out.am; omega) _ Ls hv1 HSS.out.ok (by omega) (by omega)).mono ?_); rintro e w5 ⟨c5, d5, o5, rfl, ⟨s5, z5, l5⟩, e5, g5, q5⟩))
            | fail)
          have hP5 := HP1.out.keep (l5 P (List.mem_cons_of_mem _ HPA.out))
          have hB5 := (l5 S (List.mem_cons_self ..)).trans HSB.out
          obtain ⟨-, e1, -, -⟩ := sobj_cells (s := ⟨a, .slice pr Ls.length cr, Ls, da, F, N, .slice pb B.length cb, B, pp, pl, pc, pk⟩) hB5
          simp only at e1
          obtain ⟨k0, k1, k2, k3⟩ := hP5.cells
          have hrl := s5.add (.slice pr Ls.length cr) Ls fun ρ h0 => rdLS_old HSS.out.l HB1.out.size (bel_call HB1.out s5.below) h0
          rcases q5 with ⟨rfl, r5⟩ | ⟨rfl, r5⟩ | ⟨n0, n8, r5⟩
          · clear hv1 c0 c1 c4 c6
            go_upto_region 19 with fail
            have hlt5 := hP5.lt
            have hSl5 : S < w5.heap.size := block_lt_of_cell e1
            have hva := s5.rdl (List.mem_cons_self ..)
            have hla := HZ.out.am
            refine wp_region_last (S := fun W' => W'.cell? ⟨P, 0, none⟩ = some va ∧ W'.cell? ⟨S, 1, none⟩ = some (.slice pr Ls.length cr)) 8 (by kernel_rfl) ⟨k0, e1⟩ (fun hHeld => ?_)
            refine wpAnyT_take 1 (oi := ?_) (v := ?_) ?_ (by kernel_rfl) (by kernel_rfl) (by kernel_rfl) (by kernel_rfl) (by kernel_rfl) ?_ (Or.inl ⟨?_, ?_⟩) (by assumption) ?_
            rotate_left 2
            · simp only [List.getElem?_toArray, List.getElem?_cons_succ, List.getElem?_cons_zero]; rfl
            · exact fun _ _ _ h => h
            · rfl
            · (intro w hSw; (try dsimp only at hSw); go_simp) <;> with_reducible rfl
            try simp only [Act.put, List.setIfInBounds_toArray, List.set_cons_zero, List.set_cons_succ]
            refine wpAnyT_take 2 (oi := ?_) (v := ?_) ?_ (by kernel_rfl) (by kernel_rfl) (by kernel_rfl) (by kernel_rfl) (by kernel_rfl) ?_ (Or.inl ⟨?_, ?_⟩) (by assumption) ?_
            rotate_left 2
            · simp only [List.getElem?_toArray, List.getElem?_cons_succ, List.getElem?_cons_zero]; rfl
            · exact fun _ _ _ h => h
            · rfl
            · (intro w hSw; (try dsimp only at hSw); go_simp) <;> with_reducible rfl
            try simp only [Act.put, List.setIfInBounds_toArray, List.set_cons_zero, List.set_cons_succ]
            refine wpAnyT_take 4 (oi := ?_) (v := ?_) ?_ (by kernel_rfl) (by kernel_rfl) (by kernel_rfl) (by kernel_rfl) (by kernel_rfl) ?_ (Or.inl ⟨?_, ?_⟩) (by assumption) ?_
            rotate_left 2
            · simp only [List.getElem?_toArray, List.getElem?_cons_succ, List.getElem?_cons_zero]; rfl
            · exact fun _ _ _ h => h
            · rfl
            · (intro w hSw; (try dsimp only at hSw); go_simp) <;> with_reducible rfl
            try simp only [Act.put, List.setIfInBounds_toArray, List.set_cons_zero, List.set_cons_succ]
            refine wpAnyT_take 5 (oi := ?_) (v := ?_) ?_ (by kernel_rfl) (by kernel_rfl) (by kernel_rfl) (by kernel_rfl) (by kernel_rfl) ?_ (Or.inl ⟨?_, ?_⟩) (by assumption) ?_
            rotate_left 2
            · simp only [List.getElem?_toArray, List.getElem?_cons_succ, List.getElem?_cons_zero]; rfl
            · exact fun _ _ _ h => h
            · rfl
            · (intro w hSw; (try dsimp only at hSw); go_simp) <;> with_reducible rfl
            try simp only [Act.put, List.setIfInBounds_toArray, List.set_cons_zero, List.set_cons_succ]
            refine wpAnyT_step 0 (o := ?_) (by kernel_rfl) ?_ (fun K hK => ?_)
            rotate_left 1
            · simp only [List.getElem?_toArray, List.getElem?_cons_zero]; rfl
            go_simp
            have hbe := bel_alloc (RowKit.Below.refl w5.heap.size w5) (.cells #[] 35)
            have hown6 : (w5.alloc (.cells #[] 35)).drew.ownsRow w5.heap.size 35 1 (.slice (some ⟨w5.heap.size, 0, none⟩) 0 0) 0 [] := ⟨rfl, .inr ⟨_, 0, #[], rfl, Nat.le_refl _, heap_alloc_new _ _, Nat.le_refl _, by unfold maxLen; omega, rfl, rfl⟩⟩
            refine hK.out _ _ (fun _ => ⟨(hbe.cell hlt5).trans k0, (hbe.cell hSl5).trans e1⟩) (fun hH => ?_)
            clear hHeld; have hHeld := hH (by decide); clear hH hK K
            try simp only [Act.put, List.setIfInBounds_toArray, List.set_cons_zero, List.set_cons_succ]
            have hbe6 := hbe.drew
            have hsz6 := hbe6.size
            generalize (w5.alloc (.cells #[] 35)).drew = w6 at *
            refine wpAnyT_step 3 (o := ?_) (by kernel_rfl) ?_ (fun K hK => ?_)
            rotate_left 1
            · simp only [List.getElem?_toArray, List.getElem?_cons_succ, List.getElem?_cons_zero]; rfl
            rw [if_pos (by rfl)]
            refine wp_append_rows _ _ rfl w5.heap.size hsz6 _ 0 [] rfl hown6 va p.all rfl (hva.keep hbe6) (by omega) ?_
            intro v7 w7 news7 hn7 hown7 hg7
            have hbe7 := grown_belowR hown6 hbe6 hsz6 hg7
            have hsz7 := hbe7.size
            refine hK.out _ _ (fun _ => ⟨(hbe7.cell hlt5).trans k0, (hbe7.cell hSl5).trans e1⟩) (fun hH => ?_)
            clear hHeld; have hHeld := hH (by decide); clear hH hK K
            try simp only [Act.put, List.setIfInBounds_toArray, List.set_cons_zero, List.set_cons_succ]
            refine wpAnyT_step 6 (o := ?_) (by kernel_rfl) ?_ (fun K hK => ?_)
            rotate_left 1
            · simp only [List.getElem?_toArray, List.getElem?_cons_succ, List.getElem?_cons_zero]; rfl
            rw [if_pos (by rfl)]
            refine wp_append_rows _ _ rfl w5.heap.size hsz7 v7 (0 + p.all.length) ([] ++ news7) rfl hown7 (.slice pr Ls.length cr) Ls rfl ((hrl.rdl (List.mem_cons_self ..)).keep hbe7) (by omega) ?_
            intro v8 w8 news8 hn8 hown8 hg8
            have hbe8 := grown_belowR hown7 hbe7 hsz7 hg8
            have hP8 := hP5.keep (hbe8.block P hlt5)
            obtain ⟨p8, cap8, rfl⟩ := own_shape hown8
            have z8 := hP8.fz 0
            refine hK.out _ _ (fun _ => ⟨(hbe8.cell hlt5).trans k0, (hbe8.cell hSl5).trans e1⟩) (fun hH => ?_)
            clear hHeld; have hHeld := hH (by decide); clear hH hK K
            try simp only [Act.put, List.setIfInBounds_toArray, List.set_cons_zero, List.set_cons_succ]
            refine wpAnyT_take 7 (oi := ?_) (v := ?_) ?_ (by kernel_rfl) (by kernel_rfl) (by kernel_rfl) (by kernel_rfl) (by kernel_rfl) ?_ (Or.inl ⟨?_, ?_⟩) (by assumption) ?_
            rotate_left 2
            · simp only [List.getElem?_toArray, List.getElem?_cons_succ, List.getElem?_cons_zero]; rfl
            · exact fun _ _ _ h => h
            · rfl
            · (intro w hSw; (try dsimp only at hSw); go_simp) <;> with_reducible rfl
            try simp only [Act.put, List.setIfInBounds_toArray, List.set_cons_zero, List.set_cons_succ]
            refine wpAnyT_step 8 (o := ?_) (by kernel_rfl) ?_ (fun K hK => ?_)
            rotate_left 1
            · simp only [List.getElem?_toArray, List.getElem?_cons_succ, List.getElem?_cons_zero]; rfl
            go_simp
            refine hK.out _ _ (fun hx => absurd hx (by decide)) (fun _ => ?_)
            clear hHeld hK K
            refine wpAnyT_done (by kernel_rfl) ?_ _
            try simp only [Act.put, List.setIfInBounds_toArray, List.set_cons_zero, List.set_cons_succ]
            rw [Nat.zero_add] at hown8
            have hx5 := HX.out
            have hS8 := hrl.addNew hbe8 _ (p.all ++ Ls) (fun ρ _ hf hR => rows_two hn7.1 (fun j hj => hn7.2 w8 ρ (fun h0 g e => (hbe8.block g (hva.block h0 g e)).trans (hbe6.block g (hva.block h0 g e)).symm) (hR (va, p.all) (List.mem_cons_of_mem _ (List.mem_cons_self ..))) j hj) (fun j hj => hn8.2 w8 ρ (fun h0 g e => (hbe8.block g ((hrl.rdl (List.mem_cons_self ..)).block h0 g e)).trans (hbe7.block g ((hrl.rdl (List.mem_cons_self ..)).block h0 g e)).symm) (hR (.slice pr Ls.length cr, Ls) (List.mem_cons_self ..)) j hj) hown8 hf)
            have hKI : KInv w1 L w1.heap.size P (q + 1) (vptr o) (w8.setCell ⟨P, 0, none⟩ (.slice p8 (p.all.length + Ls.length) cap8)) := by
              rw [← e5]
              exact KInv.mk' (hS8.set (List.mem_cons_of_mem _ HPA.out) 0 _) (List.mem_cons_of_mem _ HPA.out) (hP8.set0 _ ⟨p.all ++ Ls, p.more, p.next, p.other⟩ rfl) (by simp) (by simp) (by simp) r5 g5 (by omega) (by omega) (HZ.out.add HSS.out.ok hlnb) (by omega)
            have HKI := Lib.hid hKI
            clear hKI hS8 hx5
            go_wp2
            exact ⟨⟨q + 1, by omega, by go_num, HKI.out⟩, by simp [intOf]; omega⟩
          · have hx5 := HX.out
            have z5 := hP5.fz 1
            have hKI : KInv w1 L w1.heap.size P (q + 1) (vptr o) (w5.setCell ⟨P, 1, none⟩ (.slice pr Ls.length cr)) := by
              rw [← e5]
              exact KInv.mk' (hrl.set (List.mem_cons_of_mem _ HPA.out) 1 _) (List.mem_cons_of_mem _ HPA.out) (hP5.set1 _ ⟨p.all, Ls, p.next, p.other⟩ rfl) (by simp) (by simp) (by simp) r5 g5 (by omega) (by omega) (HZ.out.addMore HSS.out.ok hlnb) (by omega)
            have HKI := Lib.hid hKI
            clear hKI hx5
            go_wp2
            exact ⟨⟨q + 1, by omega, by go_num, HKI.out⟩, by simp [intOf]; omega⟩
          · have hx5 := HX.out
            have hd0 : (c5 == 0) = false := beq_false_of_ne n0
            have hd8 : (c5 == 8) = false := beq_false_of_ne n8
            have hKI : KInv w1 L w1.heap.size P (q + 1) (vptr o) w5 := by
              rw [← e5]
              exact KInv.mk' hrl (List.mem_cons_of_mem _ HPA.out) hP5 (by simp) (by simp) (by simp) r5 g5 (by omega) (by omega) HZ.out (by omega)
            have HKI := Lib.hid hKI
            clear hKI hx5
            go_wp2
            exact ⟨⟨q + 1, by omega, by go_num, HKI.out⟩, by simp [intOf]; omega⟩
        · have hv1 := (HSS.out.l.keep HB1.out).keep (bel_call (RowKit.Below.refl _ _) HS1.out.below)
          go_upto_region 18 with (first
            | (go_at_call 12; go_loud ((with_reducible refine (p_add HS1.out HR.out HG.out (by omega) (by omega) hT1.out (by have := HZ.out.am; omega) _ Ls hv1 HSS.out.ok (by omega) (by omega)).mono ?_); rintro e w5 ⟨c5, d5, o5, rfl, ⟨s5, z5, l5⟩, e5, g5, q5⟩))
            | fail)
          have hP5 := HP1.out.keep (l5 P (List.mem_cons_of_mem _ HPA.out))
          have hB5 := (l5 S (List.mem_cons_self ..)).trans HSB.out
          obtain ⟨-, e1, -, -⟩ := sobj_cells (s := ⟨a, .slice pr Ls.length cr, Ls, da, F, N, .slice pb B.length cb, B, pp, pl, pc, pk⟩) hB5
          simp only at e1
          obtain ⟨k0, k1, k2, k3⟩ := hP5.cells
          have hrl := s5.add (.slice pr Ls.length cr) Ls fun ρ h0 => rdLS_old HSS.out.l HB1.out.size (bel_call HB1.out s5.below) h0
          rcases q5 with ⟨rfl, r5⟩ | ⟨rfl, r5⟩ | ⟨n0, n8, r5⟩
          · clear hv1 c0 c1 c4 c6
            go_upto_region 19 with fail
            have hlt5 := hP5.lt
            have hSl5 : S < w5.heap.size := block_lt_of_cell e1
            have hva := s5.rdl (List.mem_cons_self ..)
            have hla := HZ.out.am
            refine wp_region_last (S := fun W' => W'.cell? ⟨P, 0, none⟩ = some va ∧ W'.cell? ⟨S, 1, none⟩ = some (.slice pr Ls.length cr)) 8 (by kernel_rfl) ⟨k0, e1⟩ (fun hHeld => ?_)
            refine wpAnyT_take 1 (oi := ?_) (v := ?_) ?_ (by kernel_rfl) (by kernel_rfl) (by kernel_rfl) (by kernel_rfl) (by kernel_rfl) ?_ (Or.inl ⟨?_, ?_⟩) (by assumption) ?_
            rotate_left 2
            · simp only [List.getElem?_toArray, List.getElem?_cons_succ, List.getElem?_cons_zero]; rfl
            · exact fun _ _ _ h => h
            · rfl
            · (intro w hSw; (try dsimp only at hSw); go_simp) <;> with_reducible rfl
            try simp only [Act.put, List.setIfInBounds_toArray, List.set_cons_zero, List.set_cons_succ]
            refine wpAnyT_take 2 (oi := ?_) (v := ?_) ?_ (by kernel_rfl) (by kernel_rfl) (by kernel_rfl) (by kernel_rfl) (by kernel_rfl) ?_ (Or.inl ⟨?_, ?_⟩) (by assumption) ?_
            rotate_left 2
            · simp only [List.getElem?_toArray, List.getElem?_cons_succ, List.getElem?_cons_zero]; rfl
            · exact fun _ _ _ h => h
            · rfl
            · (intro w hSw; (try dsimp only at hSw); go_simp) <;> with_reducible rfl
            try simp only [Act.put, List.setIfInBounds_toArray, List.set_cons_zero, List.set_cons_succ]
            refine wpAnyT_take 4 (oi := ?_) (v := ?_) ?_ (by kernel_rfl) (by kernel_rfl) (by kernel_rfl) (by kernel_rfl) (by kernel_rfl) ?_ (Or.inl ⟨?_, ?_⟩) (by assumption) ?_
            rotate_left 2
            · simp only [List.getElem?_toArray, List.getElem?_cons_succ, List.getElem?_cons_zero]; rfl
            · exact fun _ _ _ h => h
            · rfl
            · (intro w hSw; (try dsimp only at hSw); go_simp) <;> with_reducible rfl
            try simp only [Act.put, List.setIfInBounds_toArray, List.set_cons_zero, List.set_cons_succ]
            refine wpAnyT_take 5 (oi := ?_) (v := ?_) ?_ (by kernel_rfl) (by kernel_rfl) (by kernel_rfl) (by kernel_rfl) (by kernel_rfl) ?_ (Or.inl ⟨?_, ?_⟩) (by assumption) ?_
            rotate_left 2
            · simp only [List.getElem?_toArray, List.getElem?_cons_succ, List.getElem?_cons_zero]; rfl
            · exact fun _ _ _ h => h
            · rfl
            · (intro w hSw; (try dsimp only at hSw); go_simp) <;> with_reducible rfl
            try simp only [Act.put, List.setIfInBounds_toArray, List.set_cons_zero, List.set_cons_succ]
            refine wpAnyT_step 0 (o := ?_) (by kernel_rfl) ?_ (fun K hK => ?_)
            rotate_left 1
            · simp only [List.getElem?_toArray, List.getElem?_cons_zero]; rfl
            go_simp
            have hbe := bel_alloc (RowKit.Below.refl w5.heap.size w5) (.cells #[] 35)
            have hown6 : (w5.alloc (.cells #[] 35)).drew.ownsRow w5.heap.size 35 1 (.slice (some ⟨w5.heap.size, 0, none⟩) 0 0) 0 [] := ⟨rfl, .inr ⟨_, 0, #[], rfl, Nat.le_refl _, heap_alloc_new _ _, Nat.le_refl _, by unfold maxLen; omega, rfl, rfl⟩⟩
            refine hK.out _ _ (fun _ => ⟨(hbe.cell hlt5).trans k0, (hbe.cell hSl5).trans e1⟩) (fun hH => ?_)
            clear hHeld; have hHeld := hH (by decide); clear hH hK K
            try simp only [Act.put, List.setIfInBounds_toArray, List.set_cons_zero, List.set_cons_succ]
            have hbe6 := hbe.drew
            have hsz6 := hbe6.size
            generalize (w5.alloc (.cells #[] 35)).drew = w6 at *
            refine wpAnyT_step 3 (o := ?_) (by kernel_rfl) ?_ (fun K hK => ?_)
            rotate_left 1
            · simp only [List.getElem?_toArray, List.getElem?_cons_succ, List.getElem?_cons_zero]; rfl
            rw [if_pos (by rfl)]
            refine wp_append_rows _ _ rfl w5.heap.size hsz6 _ 0 [] rfl hown6 va p.all rfl (hva.keep hbe6) (by omega) ?_
            intro v7 w7 news7 hn7 hown7 hg7
            have hbe7 := grown_belowR hown6 hbe6 hsz6 hg7
            have hsz7 := hbe7.size
            refine hK.out _ _ (fun _ => ⟨(hbe7.cell hlt5).trans k0, (hbe7.cell hSl5).trans e1⟩) (fun hH => ?_)
            clear hHeld; have hHeld := hH (by decide); clear hH hK K
            try simp only [Act.put, List.setIfInBounds_toArray, List.set_cons_zero, List.set_cons_succ]
            refine wpAnyT_step 6 (o := ?_) (by kernel_rfl) ?_ (fun K hK => ?_)
            rotate_left 1
            · simp only [List.getElem?_toArray, List.getElem?_cons_succ, List.getElem?_cons_zero]; rfl
            rw [if_pos (by rfl)]
            refine wp_append_rows _ _ rfl w5.heap.size hsz7 v7 (0 + p.all.length) ([] ++ news7) rfl hown7 (.slice pr Ls.length cr) Ls rfl ((hrl.rdl (List.mem_cons_self ..)).keep hbe7) (by omega) ?_
            intro v8 w8 news8 hn8 hown8 hg8
            have hbe8 := grown_belowR hown7 hbe7 hsz7 hg8
            have hP8 := hP5.keep (hbe8.block P hlt5)
            obtain ⟨p8, cap8, rfl⟩ := own_shape hown8
            have z8 := hP8.fz 0
            refine hK.out _ _ (fun _ => ⟨(hbe8.cell hlt5).trans k0, (hbe8.cell hSl5).trans e1⟩) (fun hH => ?_)
            clear hHeld; have hHeld := hH (by decide); clear hH hK K
            try simp only [Act.put, List.setIfInBounds_toArray, List.set_cons_zero, List.set_cons_succ]
            refine wpAnyT_take 7 (oi := ?_) (v := ?_) ?_ (by kernel_rfl) (by kernel_rfl) (by kernel_rfl) (by kernel_rfl) (by kernel_rfl) ?_ (Or.inl ⟨?_, ?_⟩) (by assumption) ?_
            rotate_left 2
            · simp only [List.getElem?_toArray, List.getElem?_cons_succ, List.getElem?_cons_zero]; rfl
            · exact fun _ _ _ h => h
            · rfl
            · (intro w hSw; (try dsimp only at hSw); go_simp) <;> with_reducible rfl
            try simp only [Act.put, List.setIfInBounds_toArray, List.set_cons_zero, List.set_cons_succ]
            refine wpAnyT_step 8 (o := ?_) (by kernel_rfl) ?_ (fun K hK => ?_)
            rotate_left 1
            · simp only [List.getElem?_toArray, List.getElem?_cons_succ, List.getElem?_cons_zero]; rfl
            go_simp
            refine hK.out _ _ (fun hx => absurd hx (by decide)) (fun _ => ?_)
            clear hHeld hK K
            refine wpAnyT_done (by kernel_rfl) ?_ _
            try simp only [Act.put, List.setIfInBounds_toArray, List.set_cons_zero, List.set_cons_succ]
            rw [Nat.zero_add] at hown8
            have hx5 := HX.out
            have hS8 := hrl.addNew hbe8 _ (p.all ++ Ls) (fun ρ _ hf hR => rows_two hn7.1 (fun j hj => hn7.2 w8 ρ (fun h0 g e => (hbe8.block g (hva.block h0 g e)).trans (hbe6.block g (hva.block h0 g e)).symm) (hR (va, p.all) (List.mem_cons_of_mem _ (List.mem_cons_self ..))) j hj) (fun j hj => hn8.2 w8 ρ (fun h0 g e => (hbe8.block g ((hrl.rdl (List.mem_cons_self ..)).block h0 g e)).trans (hbe7.block g ((hrl.rdl (List.mem_cons_self ..)).block h0 g e)).symm) (hR (.slice pr Ls.length cr, Ls) (List.mem_cons_self ..)) j hj) hown8 hf)
            have hKI : KInv w1 L w1.heap.size P (q + 1) (vptr o) (w8.setCell ⟨P, 0, none⟩ (.slice p8 (p.all.length + Ls.length) cap8)) := by
              rw [← e5]
              exact KInv.mk' (hS8.set (List.mem_cons_of_mem _ HPA.out) 0 _) (List.mem_cons_of_mem _ HPA.out) (hP8.set0 _ ⟨p.all ++ Ls, p.more, p.next, p.other⟩ rfl) (by simp) (by simp) (by simp) r5 g5 (by omega) (by omega) (HZ.out.add HSS.out.ok hlnb) (by omega)
            have HKI := Lib.hid hKI
            clear hKI hS8 hx5
            go_wp2
            exact ⟨⟨q + 1, by omega, by go_num, HKI.out⟩, by simp [intOf]; omega⟩
          · have hx5 := HX.out
            have z5 := hP5.fz 1
            have hKI : KInv w1 L w1.heap.size P (q + 1) (vptr o) (w5.setCell ⟨P, 1, none⟩ (.slice pr Ls.length cr)) := by
              rw [← e5]
              exact KInv.mk' (hrl.set (List.mem_cons_of_mem _ HPA.out) 1 _) (List.mem_cons_of_mem _ HPA.out) (hP5.set1 _ ⟨p.all, Ls, p.next, p.other⟩ rfl) (by simp) (by simp) (by simp) r5 g5 (by omega) (by omega) (HZ.out.addMore HSS.out.ok hlnb) (by omega)
            have HKI := Lib.hid hKI
            clear hKI hx5
            go_wp2
            exact ⟨⟨q + 1, by omega, by go_num, HKI.out⟩, by simp [intOf]; omega⟩
          · have hx5 := HX.out
            have hd0 : (c5 == 0) = false := beq_false_of_ne n0
            have hd8 : (c5 == 8) = false := beq_false_of_ne n8
            have hKI : KInv w1 L w1.heap.size P (q + 1) (vptr o) w5 := by
              rw [← e5]
              exact KInv.mk' hrl (List.mem_cons_of_mem _ HPA.out) hP5 (by simp) (by simp) (by simp) r5 g5 (by omega) (by omega) HZ.out (by omega)
            have HKI := Lib.hid hKI
            clear hKI hx5
            go_wp2
            exact ⟨⟨q + 1, by omega, by go_num, HKI.out⟩, by simp [intOf]; omega⟩
        · have hv1 := (HSS.out.l.keep HB1.out).keep (bel_call (RowKit.Below.refl _ _) HS1.out.below)
          go_upto_region 18 with (first
            | (go_at_call 12; go_loud ((with_reducible refine (p_add HS1.out HR.out HG.out (by omega) (by omega) hT1.out (by have := HZ.out.am; omega) _ Ls hv1 HSS.out.ok (by omega) (by omega)).mono ?_); rintro e w5 ⟨c5, d5, o5, rfl, ⟨s5, z5, l5⟩, e5, g5, q5⟩))
            | fail)
          have hP5 := HP1.out.keep (l5 P (List.mem_cons_of_mem _ HPA.out))
          have hB5 := (l5 S (List.mem_cons_self ..)).trans HSB.out
          obtain ⟨-, e1, -, -⟩ := sobj_cells (s := ⟨a, .slice pr Ls.length cr, Ls, da, F, N, .slice pb B.length cb, B, pp, pl, pc, pk⟩) hB5
          simp only at e1
          obtain ⟨k0, k1, k2, k3⟩ := hP5.cells
          have hrl := s5.add (.slice pr Ls.length cr) Ls fun ρ h0 => rdLS_old HSS.out.l HB1.out.size (bel_call HB1.out s5.below) h0
          rcases q5 with ⟨rfl, r5⟩ | ⟨rfl, r5⟩ | ⟨n0, n8, r5⟩
          · clear hv1 c0 c1 c4 c6
            go_upto_region 19 with fail
            have hlt5 := hP5.lt
            have hSl5 : S < w5.heap.size := block_lt_of_cell e1
            have hva := s5.rdl (List.mem_cons_self ..)
            have hla := HZ.out.am
            refine wp_region_last (S := fun W' => W'.cell? ⟨P, 0, none⟩ = some va ∧ W'.cell? ⟨S, 1, none⟩ = some (.slice pr Ls.length cr)) 8 (by kernel_rfl) ⟨k0, e1⟩ (fun hHeld => ?_)
            refine wpAnyT_take 1 (oi := ?_) (v := ?_) ?_ (by kernel_rfl) (by kernel_rfl) (by kernel_rfl) (by kernel_rfl) (by kernel_rfl) ?_ (Or.inl ⟨?_, ?_⟩) (by assumption) ?_
            rotate_left 2
            · simp only [List.getElem?_toArray, List.getElem?_cons_succ, List.getElem?_cons_zero]; rfl
            · exact fun _ _ _ h => h
            · rfl
            · (intro w hSw; (try dsimp only at hSw); go_simp) <;> with_reducible rfl
            try simp only [Act.put, List.setIfInBounds_toArray, List.set_cons_zero, List.set_cons_succ]
            refine wpAnyT_take 2 (oi := ?_) (v := ?_) ?_ (by kernel_rfl) (by kernel_rfl) (by kernel_rfl) (by kernel_rfl) (by kernel_rfl) ?_ (Or.inl ⟨?_, ?_⟩) (by assumption) ?_
            rotate_left 2
            · simp only [List.getElem?_toArray, List.getElem?_cons_succ, List.getElem?_cons_zero]; rfl
            · exact fun _ _ _ h => h
            · rfl
            · (intro w hSw; (try dsimp only at hSw); go_simp) <;> with_reducible rfl
            try simp only [Act.put, List.setIfInBounds_toArray, List.set_cons_zero, List.set_cons_succ]
            refine wpAnyT_take 4 (oi := ?_) (v := ?_) ?_ (by kernel_rfl) (by kernel_rfl) (by kernel_rfl) (by kernel_rfl) (by kernel_rfl) ?_ (Or.inl ⟨?_, ?_⟩) (by assumption) ?_
            rotate_left 2
            · simp only [List.getElem?_toArray, List.getElem?_cons_succ, List.getElem?_cons_zero]; rfl
            · exact fun _ _ _ h => h
            · rfl
            · (intro w hSw; (try dsimp only at hSw); go_simp) <;> with_reducible rfl
            try simp only [Act.put, List.setIfInBounds_toArray, List.set_cons_zero, List.set_cons_succ]
            refine wpAnyT_take 5 (oi := ?_) (v := ?_) ?_ (by kernel_rfl) (by kernel_rfl) (by kernel_rfl) (by kernel_rfl) (by kernel_rfl) ?_ (Or.inl ⟨?_, ?_⟩) (by assumption) ?_
            rotate_left 2
            · simp only [List.getElem?_toArray, List.getElem?_cons_succ, List.getElem?_cons_zero]; rfl
            · exact fun _ _ _ h => h
            · rfl
            · (intro w hSw; (try dsimp only at hSw); go_simp) <;> with_reducible rfl
            try simp only [Act.put, List.setIfInBounds_toArray, List.set_cons_zero, List.set_cons_succ]
            refine wpAnyT_step 0 (o := ?_) (by kernel_rfl) ?_ (fun K hK => ?_)
            rotate_left 1
            · simp only [List.getElem?_toArray, List.getElem?_cons_zero]; rfl
            go_simp
            have hbe := bel_alloc (RowKit.Below.refl w5.heap.size w5) (.cells #[] 35)
            have hown6 : (w5.alloc (.cells #[] 35)).drew.ownsRow w5.heap.size 35 1 (.slice (some ⟨w5.heap.size, 0, none⟩) 0 0) 0 [] := ⟨rfl, .inr ⟨_, 0, #[], rfl, Nat.le_refl _, heap_alloc_new _ _, Nat.le_refl _, by unfold maxLen; omega, rfl, rfl⟩⟩
            refine hK.out _ _ (fun _ => ⟨(hbe.cell hlt5).trans k0, (hbe.cell hSl5).trans e1⟩) (fun hH => ?_)
            clear hHeld; have hHeld := hH (by decide); clear hH hK K
            try simp only [Act.put, List.setIfInBounds_toArray, List.set_cons_zero, List.set_cons_succ]
            have hbe6 := hbe.drew
            have hsz6 := hbe6.size
            generalize (w5.alloc (.cells #[] 35)).drew = w6 at *
            refine wpAnyT_step 3 (o := ?_) (by kernel_rfl) ?_ (fun K hK => ?_)
            rotate_left 1
            · simp only [List.getElem?_toArray, List.getElem?_cons_succ, List.getElem?_cons_zero]; rfl
            rw [if_pos (by rfl)]
            refine wp_append_rows _ _ rfl w5.heap.size hsz6 _ 0 [] rfl hown6 va p.all rfl (hva.keep hbe6) (by omega) ?_
            intro v7 w7 news7 hn7 hown7 hg7
            have hbe7 := grown_belowR hown6 hbe6 hsz6 hg7
            have hsz7 := hbe7.size
            refine hK.out _ _ (fun _ => ⟨(hbe7.cell hlt5).trans k0, (hbe7.cell hSl5).trans e1⟩) (fun hH => ?_)
            clear hHeld; have hHeld := hH (by decide); clear hH hK K
            try simp only [Act.put, List.setIfInBounds_toArray, List.set_cons_zero, List.set_cons_succ]
            refine wpAnyT_step 6 (o := ?_) (by kernel_rfl) ?_ (fun K hK => ?_)
            rotate_left 1
            · simp only [List.getElem?_toArray, List.getElem?_cons_succ, List.getElem?_cons_zero]; rfl
            rw [if_pos (by rfl)]
            refine wp_append_rows _ _ rfl w5.heap.size hsz7 v7 (0 + p.all.length) ([] ++ news7) rfl hown7 (.slice pr Ls.length cr) Ls rfl ((hrl.rdl (List.mem_cons_self ..)).keep hbe7) (by omega) ?_
            intro v8 w8 news8 hn8 hown8 hg8
            have hbe8 := grown_belowR hown7 hbe7 hsz7 hg8
            have hP8 := hP5.keep (hbe8.block P hlt5)
            obtain ⟨p8, cap8, rfl⟩ := own_shape hown8
            have z8 := hP8.fz 0
            refine hK.out _ _ (fun _ => ⟨(hbe8.cell hlt5).trans k0, (hbe8.cell hSl5).trans e1⟩) (fun hH => ?_)
            clear hHeld; have hHeld := hH (by decide); clear hH hK K
            try simp only [Act.put, List.setIfInBounds_toArray, List.set_cons_zero, List.set_cons_succ]
            refine wpAnyT_take 7 (oi := ?_) (v := ?_) ?_ (by kernel_rfl) (by kernel_rfl) (by kernel_rfl) (by kernel_rfl) (by kernel_rfl) ?_ (Or.inl ⟨?_, ?_⟩) (by assumption) ?_
            rotate_left 2
            · simp only [List.getElem?_toArray, List.getElem?_cons_succ, List.getElem?_cons_zero]; rfl
            · exact fun _ _ _ h => h
            · rfl
            · (intro w hSw; (try dsimp only at hSw); go_simp) <;> with_reducible rfl
            try simp only [Act.put, List.setIfInBounds_toArray, List.set_cons_zero, List.set_cons_succ]
            refine wpAnyT_step 8 (o := ?_) (by kernel_rfl) ?_ (fun K hK => ?_)
            rotate_left 1
            · simp only [List.getElem?_toArray, List.getElem?_cons_succ, List.getElem?_cons_zero]; rfl
            go_simp
            refine hK.out _ _ (fun hx => absurd hx (by decide)) (fun _ => ?_)
            clear hHeld hK K
            refine wpAnyT_done (by kernel_rfl) ?_ _
            try simp only [Act.put, List.setIfInBounds_toArray, List.set_cons_zero, List.set_cons_succ]
            rw [Nat.zero_add] at hown8
            have hx5 := HX.out
            have hS8 := hrl.addNew hbe8 _ (p.all ++ Ls) (fun ρ _ hf hR => rows_two hn7.1 (fun j hj => hn7.2 w8 ρ (fun h0 g e => (hbe8.block g (hva.block h0 g e)).trans (hbe6.block g (hva.block h0 g e)).symm) (hR (va, p.all) (List.mem_cons_of_mem _ (List.mem_cons_self ..))) j hj) (fun j hj => hn8.2 w8 ρ (fun h0 g e => (hbe8.block g ((hrl.rdl (List.mem_cons_self ..)).block h0 g e)).trans (hbe7.block g ((hrl.rdl (List.mem_cons_self ..)).block h0 g e)).symm) (hR (.slice pr Ls.length cr, Ls) (List.mem_cons_self ..)) j hj) hown8 hf)
            have hKI : KInv w1 L w1.heap.size P (q + 1) (vptr o) (w8.setCell ⟨P, 0, none⟩ (.slice p8 (p.all.length + Ls.length) cap8)) := by
              rw [← e5]
              exact KInv.mk' (hS8.set (List.mem_cons_of_mem _ HPA.out) 0 _) (List.mem_cons_of_mem _ HPA.out) (hP8.set0 _ ⟨p.all ++ Ls, p.more, p.next, p.other⟩ rfl) (by simp) (by simp) (by simp) r5 g5 (by omega) (by omega) (HZ.out.add HSS.out.ok hlnb) (by omega)
            have HKI := Lib.hid hKI
            clear hKI hS8 hx5
            go_wp2
            exact ⟨⟨q + 1, by omega, by go_num, HKI.out⟩, by simp [intOf]; omega⟩
          · have hx5 := HX.out
            have z5 := hP5.fz 1
            have hKI : KInv w1 L w1.heap.size P (q + 1) (vptr o) (w5.setCell ⟨P, 1, none⟩ (.slice pr Ls.length cr)) := by
              rw [← e5]
              exact KInv.mk' (hrl.set (List.mem_cons_of_mem _ HPA.out) 1 _) (List.mem_cons_of_mem _ HPA.out) (hP5.set1 _ ⟨p.all, Ls, p.next, p.other⟩ rfl) (by simp) (by simp) (by simp) r5 g5 (by omega) (by omega) (HZ.out.addMore HSS.out.ok hlnb) (by omega)
            have HKI := Lib.hid hKI
            clear hKI hx5
            go_wp2
            exact ⟨⟨q + 1, by omega, by go_num, HKI.out⟩, by simp [intOf]; omega⟩
          · have hx5 := HX.out
            have hd0 : (c5 == 0) = false := beq_false_of_ne n0
            have hd8 : (c5 == 8) = false := beq_false_of_ne n8
            have hKI : KInv w1 L w1.heap.size P (q + 1) (vptr o) w5 := by
              rw [← e5]
              exact KInv.mk' hrl (List.mem_cons_of_mem _ HPA.out) hP5 (by simp) (by simp) (by simp) r5 g5 (by omega) (by omega) HZ.out (by omega)
            have HKI := Lib.hid hKI
            clear hKI hx5
            go_wp2
            exact ⟨⟨q + 1, by omega, by go_num, HKI.out⟩, by simp [intOf]; omega⟩
        · have hv1 := (HSS.out.l.keep HB1.out).keep (bel_call (RowKit.Below.refl _ _) HS1.out.below)
          go_upto_region 24 with (first
            | (go_at_call 13; go_loud ((with_reducible refine (p_comp HS1.out HR.out HG.out (by omega) (by omega) hT1.out _ Ls hv1 HSS.out.ok (by omega) (by omega)).mono ?_); rintro e w5 ⟨c5, d5, o5, rfl, ⟨s5, z5, l5⟩, e5, g5, q5⟩))
            | fail)
          have hP5 := HP1.out.keep (l5 P (List.mem_cons_of_mem _ HPA.out))
          have hB5 := (l5 S (List.mem_cons_self ..)).trans HSB.out
          obtain ⟨-, e1, -, -⟩ := sobj_cells (s := ⟨a, .slice pr Ls.length cr, Ls, da, F, N, .slice pb B.length cb, B, pp, pl, pc, pk⟩) hB5
          simp only at e1
          obtain ⟨k0, k1, k2, k3⟩ := hP5.cells
          have hrl := s5.add (.slice pr Ls.length cr) Ls fun ρ h0 => rdLS_old HSS.out.l HB1.out.size (bel_call HB1.out s5.below) h0
          have hx5 := HX.out
          clear hv1 c0 c1 c4 c6
          rcases q5 with ⟨rfl, r5⟩ | ⟨rfl, r5⟩ | ⟨n0, n8, r5⟩
          · obtain ⟨z0, z1, z2, z3⟩ := hP5.fz3
            have hKI := KInv.reset (L := L) (q := q + 1) hrl (List.mem_cons_of_mem _ HPA.out) hP5 (List.mem_cons_self ..) r5 g5 (by omega) (by omega) (PSz.sure HSS.out.ok hlnb) (by omega)
            rw [e5] at hKI
            have HKI := Lib.hid hKI
            clear hKI hx5
            go_wp2
            exact ⟨⟨q + 1, by omega, by go_num, HKI.out⟩, by simp [intOf]; omega⟩
          · have z2 := hP5.fz 2
            have hP6 := hP5.set2 (.slice pr Ls.length cr) p rfl
            have z3 := hP6.fz 3
            have hKI : KInv w1 L w1.heap.size P (q + 1) (vptr o) ((w5.setCell ⟨P, 2, none⟩ (.slice pr Ls.length cr)).setCell ⟨P, 3, none⟩ (.bool true)) := by
              rw [← e5]
              exact KInv.mk' ((hrl.set (List.mem_cons_of_mem _ HPA.out) 2 _).set (List.mem_cons_of_mem _ HPA.out) 3 _) (List.mem_cons_of_mem _ HPA.out) (hP6.set3 true ⟨p.all, p.more, Ls, true⟩ rfl) (by simp) (by simp) (by simp) r5 g5 (by omega) (by omega) (HZ.out.addNext HSS.out.ok hlnb) (by omega)
            have HKI := Lib.hid hKI
            clear hKI hx5
            go_wp2
            exact ⟨⟨q + 1, by omega, by go_num, HKI.out⟩, by simp [intOf]; omega⟩
          · have hd0 : (c5 == 0) = false := beq_false_of_ne n0
            have hd8 : (c5 == 8) = false := beq_false_of_ne n8
            have hKI : KInv w1 L w1.heap.size P (q + 1) (vptr o) w5 := by
              rw [← e5]
              exact KInv.mk' hrl (List.mem_cons_of_mem _ HPA.out) hP5 (by simp) (by simp) (by simp) r5 g5 (by omega) (by omega) HZ.out (by omega)
            have HKI := Lib.hid hKI
            clear hKI hx5
            go_wp2
            exact ⟨⟨q + 1, by omega, by go_num, HKI.out⟩, by simp [intOf]; omega⟩
        · have hx5 := HX.out
          have HOF := Lib.hid (st_off HS1.out)
          have hok1 : DOk (d.offc.2) := HG.out.offc.sz.ok (by omega) (by omega)
          have hpk : PkIn w pp pl pk := HOK.out.p
          have hset := (settle d pk).1.fuse N
          have hdg := ((HG.out.offc).onc pk).fuse N
          have hla := HZ.out.am
          have hln := HZ.out.nx
          have HST := Lib.hid hset; have HDG := Lib.hid hdg; have HPK := Lib.hid hpk
          clear hset hdg hpk
          go_upto_region 34 with (first
            | (go_at_call 14; go_loud ((with_reducible refine HOF.out.mono ?_); rintro e w5 ⟨rfl, s5, z5, l5⟩; obtain ⟨-, -, e4, e6⟩ := sobj_cells (s := ⟨a, .slice pr Ls.length cr, Ls, da, F, N, .slice pb B.length cb, B, pp, pl, pc, pk⟩) ((l5 S (List.mem_cons_self ..)).trans HSB.out); simp only at e4 e6; have hB5 := Lib.hid ((l5 S (List.mem_cons_self ..)).trans HSB.out); have hP5 := HP1.out.keep (l5 P (List.mem_cons_of_mem _ HPA.out)); have HON := Lib.hid (st_on s5 hok1 pp pl pc pk w5 (RowKit.Below.refl _ _) (HPK.out.pkm (bel_call HB1.out s5.below) _ _ HB1.out.size))))
            | (go_at_call 15; go_loud ((with_reducible refine HON.out.mono ?_); rintro e w6 ⟨rfl, s6, z6, l6⟩; have hB6 := (l6 S (List.mem_cons_self ..)).trans hB5.out; obtain ⟨-, -, f4, f6⟩ := sobj_cells (s := ⟨a, .slice pr Ls.length cr, Ls, da, F, N, .slice pb B.length cb, B, pp, pl, pc, pk⟩) hB6; simp only at f4 f6; have hP6 := hP5.keep (l6 P (List.mem_cons_of_mem _ HPA.out)); have HFU := Lib.hid (st_fuse s6 N)))
            | (go_at_call 16; go_loud ((with_reducible refine HFU.out.mono ?_); rintro e w7 ⟨rfl, s7, z7, l7⟩; have hP7 := hP6.keep (l7 P (List.mem_cons_of_mem _ HPA.out))))
            | (go_at_call 11; go_loud ((with_reducible refine (p_open s7 HR.out HST.out HDG.out (by omega) (by omega) hT1.out (by omega) (by omega)).mono ?_); rintro e w8 (⟨V8, x8, p8, c8, ls8, d8, rfl, ⟨s8, z8, l8⟩, g8, hf8, r8⟩ | ⟨-, d8, rfl, ⟨s8, z8, l8⟩, g8, r8⟩)))
            | fail)
          · have hP8 := hP7.keep (l8 P (List.mem_cons_of_mem _ HPA.out))
            obtain ⟨k0, k1, k2, k3⟩ := hP8.cells
            have HFD := Lib.hid (found_st (va := va) (vb := vb) (vc := vc) s8 (List.mem_cons_of_mem _ (List.mem_cons_self ..)) (by simp) (by simp) (List.mem_cons_self ..) HZ.out (by omega) hf8)
            have hfz := HZ.out.found hf8
            go_wp2_with (first
              | (go_at_call 17; go_loud ((with_reducible refine HFD.out.mono ?_); rintro e w9 ⟨rfl, b9⟩; have s9 := s8.keep b9; have hP9 := hP8.keep (b9.block P hP8.lt); obtain ⟨z0, z1, z2, z3⟩ := hP9.fz3; obtain ⟨m0, m1, m2, m3⟩ := hP9.cells))
              | fail)
            exact ⟨⟨q + 1, by omega, by go_num, KInv.reset (o := some (V8, x8)) s9 (List.mem_cons_of_mem _ HPA.out) hP9 (List.mem_cons_self ..) r8 g8 (by omega) (by omega) (PSz.sure hfz.1 hfz.2) (by omega)⟩, by simp [intOf]; omega⟩
          · have hP8 := hP7.keep (l8 P (List.mem_cons_of_mem _ HPA.out))
            go_wp2
            exact ⟨⟨q + 1, by omega, by go_num, KInv.mk' (o := none) s8 (List.mem_cons_of_mem _ HPA.out) hP8 (by simp) (by simp) (by simp) r8 g8 (by omega) (by omega) HZ.out (by omega)⟩, by simp [intOf]; omega⟩
        · have HFU := Lib.hid (st_fuse HS1.out N)
          go_wp2_with (first
            | (go_at_call 16; go_loud ((with_reducible refine HFU.out.mono ?_); rintro e w5 ⟨rfl, s5, z5, l5⟩))
            | fail)
          have hx5 := HX.out
          have hP5 := HP1.out.keep (l5 P (List.mem_cons_of_mem _ HPA.out))
          exact ⟨⟨q + 1, by omega, by go_num, KInv.mk' s5 (List.mem_cons_of_mem _ HPA.out) hP5 (by simp) (by simp) (by simp) (HR.out.fuse N) (HG.out.fuse N) (by omega) (by omega) HZ.out (by omega)⟩, by simp [intOf]; omega⟩
      · obtain rfl : q = L.length := by omega
        have HPA := Lib.hid hPA; have HR := Lib.hid hR; have HG := Lib.hid hG; have HZ := Lib.hid hz
        have hq5 := totV_len L
        rw [List.take_length] at HG HZ
        have HOF := Lib.hid (st_off hS)
        have hok1 : DOk (d.offc.2) := HG.out.offc.sz.ok (by omega) (by omega)
        have HST := Lib.hid (settle d fun _ => 0)
        have HDG := Lib.hid ((HG.out.offc).onc fun _ => 0)
        have hla := HZ.out.am
        have hln := HZ.out.nx
        have HP := Lib.hid hP
        clear hPA hR hG hz hS hP
        go_upto_region 44 with (first
          | (go_at_call 14; go_loud ((with_reducible refine HOF.out.mono ?_); rintro e w5 ⟨rfl, s5, z5, l5⟩; have hP5 := HP.out.keep (l5 P HPA.out); have HON := Lib.hid (st_on0 s5 hok1)))
          | (go_at_call 15; go_loud ((with_reducible refine HON.out.mono ?_); rintro e w6 ⟨rfl, s6, z6, l6⟩; have hP6 := hP5.keep (l6 P HPA.out)))
          | (go_at_call 11; go_loud ((with_reducible refine (p_open s6 HR.out HST.out.1 HDG.out (by omega) (by omega) hT1.out (by omega) (by omega)).mono ?_); rintro e w8 (⟨V8, x8, p8, c8, ls8, d8, rfl, ⟨s8, z8, l8⟩, g8, hf8, r8⟩ | ⟨hfu, -⟩); rotate_left; exact absurd hfu (by rw [HST.out.2]; decide)))
          | fail)
        have hP8 := hP6.keep (l8 P HPA.out)
        obtain ⟨k0, k1, k2, k3⟩ := hP8.cells
        have HFD := Lib.hid (found_st (va := va) (vb := vb) (vc := vc) s8 (List.mem_cons_of_mem _ (List.mem_cons_self ..)) (by simp) (by simp) (List.mem_cons_self ..) HZ.out (by omega) hf8)
        go_wp2_with (first
          | (go_at_call 17; go_loud ((with_reducible refine HFD.out.mono ?_); rintro e w9 ⟨rfl, b9⟩; have b10 := bel_call (bel_call HB1.out s8.below) b9))
          | (go_at_call 9; (with_reducible refine (HW.out _ b10).mono ?_); rintro e w11 ⟨rfl, b11⟩; have b12 := bel_call b10 b11)
          | fail)
        go_ret
        exact ⟨rfl, b12⟩
  · go_wp2_with (go_at_call 9; (with_reducible refine (HW.out _ b1).mono ?_); rintro e w2 ⟨rfl, b2⟩; have b3 := bel_call b1 b2)
    go_ret
    exact ⟨rfl, b3⟩
theorem keeps_w (v : Value) (L : List StepV) (w : World) (hv : ∃ p cap, v = .slice p L.length cap ∧ StepsIn w p L) (hl : L.length ≤ 10000000000000) (ht : KTab w) :
    Calls Tryd.prog 3 #[v] w fun e w' => e = .returned (.bool true) ∧ RowKit.Below w.heap.size w w' := by
  obtain ⟨p, cap, rfl, hs⟩ := hv
  exact keeps_t L p cap w hs hl ht
end Go.Proofs.YtfohemgfiidokaaDoor
