/- The sum of a state. -/
import Derived.Test.YtfohemgfiidokaaGreatDoorSg
namespace Go.Proofs.YtfohemgfiidokaaGreatDoor
open Go.RowKit Go.Sort
attribute [local go_sem ↓] Go.wp_at_zero Go.wp_at_succ

theorem rdb_one (W : World) (b : Int) : RdB (W.alloc (.cells #[.int .u8 b] 5)) (.slice (some ⟨W.heap.size, 0, none⟩) 1 1) [b] := by
  refine .inr ⟨_, W.heap.size, 0, 1, rfl, by simp, fun _ => rfl, fun j hj => ?_⟩
  obtain rfl : j = 0 := by simpa using hj
  simp
theorem Add1_c (hs pc : List Int) (n : Int) (xs : List Int) (b : Int) (g g2 B : Nat) (vs2 : List Value) (T2 : TypeId) (nw : List Value) (hnw : stV hs pc n = nw) (W w0 : World) (s : StOk hs pc n xs) (hb : 0 ≤ b ∧ b ≤ 255) (hsz : xs.length + 1 ≤ 1000000000000) (hk : KTab W) (h1 : RowV 149 g nw W) (h2 : RowV T2 g2 vs2 W) (h3 : Below B w0 W) (hB : B ≤ W.heap.size) :
    Calls Tryz.prog 104 #[.agg nw.toArray, .slice (some ⟨W.heap.size, 0, none⟩) 1 1] (W.alloc (.cells #[.int .u8 b] 5)) fun e w' => ∃ hs' pc' n' nw', stV hs' pc' n' = nw' ∧ e = .returned (.agg nw'.toArray) ∧ StOk hs' pc' n' (xs ++ [b]) ∧ RowV 149 g nw w' ∧ RowV T2 g2 vs2 w' ∧ Below B w0 w' := by
  subst hnw
  refine (Add_c hs pc n xs _ [b] _ s (rdb_one W b) (by intro x hx; simp at hx; omega) (by simpa using hsz) (hk.call (by exact bel_alloc (Below.refl _ _) _))).mono ?_
  rintro e w' ⟨hs', pc', n', rfl, hs2, hb2⟩
  have hbW : Below W.heap.size W w' := (bel_alloc (Below.refl _ _) _).trans (hb2.mono (by simp))
  exact ⟨hs', pc', n', _, rfl, rfl, hs2, h1.call hbW, h2.call hbW, h3.trans (hbW.mono hB)⟩
theorem stV_add (xs : List Int) (j : Nat) : xs ++ [128] ++ List.replicate j 0 ++ [0] = xs ++ [128] ++ List.replicate (j + 1) (0 : Int) := by
  rw [List.replicate_succ', List.append_assoc (xs ++ [128])]
theorem u_hash : Tryz.prog.underlying 136 = some (.array 32 5) := by kernel_rfl
theorem info136 (n : Nat) (h : n = 32) : (Tryz.prog.info? 136).map (·.size) = some n := by rw [h]; kernel_rfl
/-- a row of which the first t are laid -/
def filP (L : List Int) (t : Nat) : List Int := L.take t ++ List.replicate (L.length - t) 0
theorem filP_len (L : List Int) (t : Nat) (h : t ≤ L.length) : (filP L t).length = L.length := by simp [filP]; omega
theorem filP_all (L : List Int) : filP L L.length = L := by simp [filP]
theorem filP_set (L : List Int) (t : Nat) (h : t < L.length) (v : Int) (hv : L[t]? = some v) : (filP L t).set t v = filP L (t + 1) := by
  unfold filP
  rw [List.set_append, if_neg (by rw [List.length_take]; omega), List.length_take, Nat.min_eq_left (by omega), Nat.sub_self, show L.length - t = (L.length - (t + 1)) + 1 by omega, List.replicate_succ, List.set_cons_zero, List.take_add_one, hv]
  simp
theorem be8_get (N : Int) (t : Nat) (h : t < 8) : (be8 N)[t]? = some (N / 2 ^ (56 - 8 * t) % 256) := by simp [be8, h]
theorem be8_len (N : Int) : (be8 N).length = 8 := by simp [be8]
theorem be8_bytes (N : Int) : Bytes (be8 N) := by
  intro b hb
  simp only [be8, List.mem_map] at hb
  obtain ⟨i, _, rfl⟩ := hb
  omega
theorem digest_len (h : List Int) : (digest h).length = 32 := by simp [digest]
theorem digest_get (h : List Int) (t : Nat) (ht : t < 32) : (digest h)[t]? = some (h[t / 4]?.getD 0 / 2 ^ (24 - 8 * (t % 4)) % 256) := by simp [digest, ht]
theorem padL_eq (xs : List Int) (N : Int) (hN : (xs.length : Int) * 8 = N) : xs ++ [128] ++ List.replicate (padZ xs.length) 0 ++ be8 N = padL xs := by
  unfold padL
  rw [show 8 * (xs.length : Int) = N by omega]
  simp [List.append_assoc]
def nAt (g : Nat) (W : World) : Nat :=
  match W.cell? ⟨g, 73, none⟩ with
  | some (.int _ n) => (120 - n.toNat % 64) % 64
  | _ => 0
set_option maxRecDepth 100000 in
set_option maxHeartbeats 8000000 in
theorem End_c (hs pc : List Int) (n : Int) (xs : List Int) (w : World) (s : StOk hs pc n xs) (hsz : xs.length ≤ 100000000000) (hk : KTab w) :
    Calls Tryz.prog 105 #[.agg (stV hs pc n).toArray] w fun e w' => e = .returned (.agg ((shaF xs).map (Value.int .u8)).toArray) ∧ Below w.heap.size w w' := by
  obtain ⟨fs, hu⟩ := u_state'
  have HU := Lib.hid hu
  obtain ⟨cs, hcs⟩ : ∃ cs, stV hs pc n = cs := ⟨_, rfl⟩
  have hcl : cs.length = 74 := by rw [← hcs]; exact stV_len _ _ _ s.hl s.l
  have h1 : RowV 149 w.heap.size cs ((w.alloc (.cells cs.toArray 149)).alloc (.cells ((List.replicate 32 0).map (Value.int .u8)).toArray 136)) := (RowV.new _ _ _).alloc _
  have h2 : RowV 136 (w.heap.size + 1) ((List.replicate 32 0).map (Value.int .u8)) ((w.alloc (.cells cs.toArray 149)).alloc (.cells ((List.replicate 32 0).map (Value.int .u8)).toArray 136)) := by
    have := RowV.new 136 (w.alloc (.cells cs.toArray 149)) ((List.replicate 32 0).map (Value.int .u8))
    rwa [show (w.alloc (.cells cs.toArray 149)).heap.size = w.heap.size + 1 by simp] at this
  have h3 : Below w.heap.size w ((w.alloc (.cells cs.toArray 149)).alloc (.cells ((List.replicate 32 0).map (Value.int .u8)).toArray 136)) := bel_alloc (bel_alloc (Below.refl _ _) _) _
  rw [hcs]
  have HCL := Lib.hid hcl
  clear hu hcl
  go_enter Tryz.func105, Tryz.ntmps105
  go_upto_region 1 with fail
  refine wp_gen (fun W => RowV 149 w.heap.size cs W ∧ (∃ zv, zv.length = 32 ∧ RowV 136 (w.heap.size + 1) zv W) ∧ Below w.heap.size w W) ⟨h1, ⟨_, by simp, h2⟩, h3⟩ ?_
  clear h1 h2 h3
  rintro W ⟨h1, ⟨zv, hzv, h2⟩, h3⟩
  have c73 := h1.cell 73
  rw [← hcs, stV_n _ _ _ s.hl s.l, s.n] at c73
  have hkW := hk.below h3 hk.lt
  have HA := Lib.hid (Add1_c hs pc n xs 128 w.heap.size (w.heap.size + 1) w.heap.size zv 136 cs hcs W w s (by omega) (by omega) hkW h1 h2 h3 h3.size)
  have HI := Lib.hid (info149 cs.toArray.size (by simpa using HCL.out))
  have HCS := Lib.hid hcs
  have HS := Lib.hid s
  have HZV := Lib.hid hzv
  clear hcs s hzv
  go_upto_region 3 with (first
    | (refine wpList_load_row rfl 149 _ rfl _ rfl 149 _ _ _ h1 HU.out rfl HI.out ?_)
    | (go_at_call 104; (with_reducible refine HA.out.mono ?_); rintro e w2 ⟨hs2, pc2, n2, nw2, hnw2, rfl, hst2, k1, k2, k3⟩)
    | (refine wpList_store_row rfl 149 _ _ rfl _ rfl _ rfl 149 _ k1 (info149 _ (by rw [← hnw2]; simpa using stV_len _ _ _ hst2.hl hst2.l)) (by rw [← hnw2]; simp [HCL.out, stV_len _ _ _ hst2.hl hst2.l]) (by rw [← hnw2]; exact stV_one _ _ _) ?_))
  have hl2 : nw2.length = 74 := by rw [← hnw2]; exact stV_len _ _ _ hst2.hl hst2.l
  have R1 : RowV 149 w.heap.size nw2 (w2.setRow w.heap.size nw2.toArray) := setRow_heap _ _ _ _ 149 _ k1
  have R2 : RowV 136 (w.heap.size + 1) zv (w2.setRow w.heap.size nw2.toArray) := k2.setRow_other (by omega) _
  have R3 : Below w.heap.size w (w2.setRow w.heap.size nw2.toArray) := _root_.Go.below_setRow k3 (Nat.le_refl _) _
  clear h1 h2 h3 k1 k2 k3 HA c73 HS
  dsimp only [Act.put]
  go_loopw [18] (fun _ wr => ∃ (j : Nat) (hs pc : List Int) (n : Int) (nw : List Value), j ≤ padZ xs.length ∧ stV hs pc n = nw ∧ StOk hs pc n (xs ++ [128] ++ List.replicate j 0) ∧ RowV 149 w.heap.size nw wr ∧ RowV 136 (w.heap.size + 1) zv wr ∧ Below w.heap.size w wr) (fun _ wr => nAt w.heap.size wr)
  case atStart => exact ⟨0, hs2, pc2, n2, nw2, by omega, hnw2, by simpa using hst2, R1, R2, R3⟩
  case round =>
    clear R1 R2 R3 hl2 hnw2 hst2
    clear hs2 pc2 n2
    obtain ⟨j, hs, pc, n, nw, hj, hnw, hst, R1, R2, R3⟩ := hrel
    have hl2 : nw.length = 74 := by rw [← hnw]; exact stV_len _ _ _ hst.hl hst.l
    have hxl : (xs ++ [128] ++ List.replicate j 0).length = xs.length + 1 + j := by simp; omega
    have c73 := R1.cell 73
    rw [← hnw, stV_n _ _ _ hst.hl hst.l, hst.n, hxl] at c73
    have hna : nAt w.heap.size wr = (120 - (xs.length + 1 + j) % 64) % 64 := by unfold nAt; rw [c73]; rfl
    have hpz : padZ xs.length = (119 - xs.length % 64) % 64 := rfl
    have hkW := hk.below R3 hk.lt
    rw [show ((xs.length + 1 + j : Nat) : Int) = (xs.length : Int) + 1 + (j : Int) by omega] at c73
    by_cases hmod : (xs.length + 1 + j) % 64 = 56
    · have hjz : j = padZ xs.length := by omega
      have hI : ((xs.length : Int) + 1 + (j : Int)) % 64 = 56 := by omega
      have HST := Lib.hid hst; have HNW := Lib.hid hnw; have HJZ := Lib.hid hjz
      have e1 : RowV 149 w.heap.size nw (wr.alloc (.cells ((List.replicate 8 0).map (Value.int .u8)).toArray 160)) := R1.alloc _
      have e2 := R2.alloc (.cells ((List.replicate 8 0).map (Value.int .u8)).toArray 160)
      have e3 := RowT.new 160 .u8 wr (List.replicate 8 0)
      have e4 : Below w.heap.size w (wr.alloc (.cells ((List.replicate 8 0).map (Value.int .u8)).toArray 160)) := bel_alloc R3 _
      have hS : w.heap.size + 1 < wr.heap.size := R2.lt
      clear R1 R2 R3 hst hnw hmod hpz hjz hna
      obtain ⟨N, hN⟩ : ∃ N : Int, (xs.length : Int) * 8 = N := ⟨_, rfl⟩
      have hN0 : 0 ≤ N := by omega
      have hN1 : N ≤ 1000000000000 := by omega
      have HNN := Lib.hid hN
      go_upto_region 7 with fail
      refine wp_gen (fun U => RowV 149 w.heap.size nw U ∧ RowV 136 (w.heap.size + 1) zv U ∧ RowT 160 .u8 wr.heap.size (filP (be8 N) 0) U ∧ Below w.heap.size w U) ⟨e1, e2, e3, e4⟩ ?_
      clear e1 e2 e3 e4 c73 hkW
      generalize wr.heap.size = S at *
      rintro U ⟨e1, e2, e3, e4⟩
      go_loopw [21] (fun v wr => ∃ t : Nat, t ≤ 8 ∧ v = .int .i64 t ∧ RowV 149 w.heap.size nw wr ∧ RowV 136 (w.heap.size + 1) zv wr ∧ RowT 160 .u8 S (filP (be8 N) t) wr ∧ Below w.heap.size w wr) (fun v _ => 8 - (intOf v).toNat)
      case atStart => exact ⟨0, by omega, rfl, e1, e2, e3, e4⟩
      case round =>
        clear e1 e2 e3 e4
        obtain ⟨t, ht, rfl, e1, e2, e3, e4⟩ := hrel
        have hbl := be8_len N
        by_cases hlt : t < 8
        · have c1 := e3.cell t (by rw [filP_len _ _ (by omega)]; omega)
          have f1 := e3.frozen t
          have g1 := e1.set_other (b := S) (o := t) (by omega) (.int .u8 (N / 2 ^ (56 - 8 * t) % 256))
          have g2 := e2.set_other (b := S) (o := t) (by omega) (.int .u8 (N / 2 ^ (56 - 8 * t) % 256))
          have g3 := e3.set t (N / 2 ^ (56 - 8 * t) % 256)
          rw [filP_set _ _ (by omega) _ (be8_get N t hlt)] at g3
          have g4 := e4.setCell (p := ⟨S, t, none⟩) (show w.heap.size ≤ S by omega) (.int .u8 (N / 2 ^ (56 - 8 * t) % 256))
          generalize (filP (be8 N) t)[t]?.getD 0 = z at *
          have i0 : (0 : Int) ≤ (t : Int) := by omega
          have j0 : (t : Int) < 8 := by omega
          have HG1 := Lib.hid g1; have HG2 := Lib.hid g2; have HG3 := Lib.hid g3; have HG4 := Lib.hid g4
          clear g1 g2 g3 g4 e1 e2 e3 e4
          go_wp2_with fail
          exact ⟨⟨t + 1, by omega, by go_num, HG1.out, HG2.out, HG3.out, HG4.out⟩, by simp [intOf]; omega⟩
        · obtain rfl : t = 8 := by omega
          have e3' : RowT 160 .u8 S (be8 N) wr := by
            have := filP_all (be8 N)
            rw [hbl] at this
            rw [this] at e3; exact e3
          clear e3
          have d1 : RowV 149 w.heap.size nw wr.drew := e1
          have d2 : RowV 136 (w.heap.size + 1) zv wr.drew := e2
          have d3 : RowT 160 .u8 S (be8 N) wr.drew := e3'
          have d4 : Below w.heap.size w wr.drew := bel_call e4 (below_drewN wr 1)
          have hkW := hk.below d4 hk.lt
          have hrd : RdB wr.drew (.slice (some ⟨S, 0, none⟩) 8 8) (be8 N) := by
            have := rdb_of_row (cap := 8) d3 (by omega)
            rw [hbl] at this; exact this
          have hadd := Add_c hs pc n _ _ (be8 N) _ HST.out hrd (be8_bytes N) (by rw [HJZ.out, hbl]; have : padZ xs.length < 64 := Nat.mod_lt _ (by omega); simp; omega) hkW
          rw [HJZ.out, padL_eq _ _ HNN.out, HNW.out] at hadd
          have HADD := Lib.hid hadd; have HE2 := Lib.hid d2; have HE4 := Lib.hid d4
          have HI := Lib.hid (info149 nw.toArray.size (by simpa using hl2))
          have HE1 := Lib.hid d1
          clear hadd d2 d3 d4 e1 e2 e3' e4 hrd hkW d1
          have hsl : ∀ W, (Instr.sliceAt 160 (.pointer (some ⟨S, 0, none⟩)) none none none).run Tryz.prog W = .ok (.slice (some ⟨S, 0, none⟩) 8 8) W := fun W => by
            have he : Tryz.prog.elem 160 = 5 := by simp [Program.elem, Tryz.underlying160]
            rw [run_sliceAt_array_all W 160 ⟨S, 0, none⟩ (by simp [Program.arrayLen, Program.elem, Tryz.underlying160]), he, Tryz.sizeOf5 W]
            simp [slicedAt, Program.arrayLen, Tryz.underlying160, Result.andThen, Addr.add_lit]
          go_wp2_with fail
          refine wp_region_held_drew (S := fun _ => True) (by kernel_rfl) trivial (fun hHeld => ?_)
          refine wpAnyH_take (i := 1) (oi := ?_) (v := .slice (some ⟨S, 0, none⟩) 8 8) ?_ (by kernel_rfl) (by kernel_rfl) (by kernel_rfl) ?_ (Or.inl ⟨?_, ?_⟩) (by assumption) ?_
          rotate_left 1
          · simp only [List.getElem?_toArray, List.getElem?_cons_succ, List.getElem?_cons_zero]; rfl
          · exact fun _ _ _ h => h
          · rfl
          · intro w hSw
            go_simp
          try simp only [Act.put, List.setIfInBounds_toArray, List.set_cons_zero, List.set_cons_succ]
          refine wpAnyH_one 0 (o := ?_) (by kernel_rfl) ?_ (fun K hK => ?_)
          rotate_left 1
          · simp only [List.getElem?_toArray, List.getElem?_cons_zero]; rfl
          rw [if_pos (by rfl)]
          refine wp_load_row 149 _ rfl _ rfl 149 _ _ _ HE1.out HU.out rfl HI.out ?_
          refine hK.out _ _ trivial (fun hH => ?_)
          clear hH hK K
          try simp only [Act.put, List.setIfInBounds_toArray, List.set_cons_zero, List.set_cons_succ]
          refine wpAnyH_one 2 (o := ?_) (by kernel_rfl) ?_ (fun K hK => ?_)
          rotate_left 1
          · simp only [List.getElem?_toArray, List.getElem?_cons_succ, List.getElem?_cons_zero]; rfl
          go_simp
          refine HADD.out.mono ?_
          rintro e w5 ⟨hs5, pc5, n5, rfl, hst5, hb5⟩
          have l5 := stV_len hs5 pc5 n5 hst5.hl hst5.l
          have o5 := stV_one hs5 pc5 n5
          obtain ⟨nw5, hnw5⟩ : ∃ nw5, stV hs5 pc5 n5 = nw5 := ⟨_, rfl⟩
          rw [hnw5] at l5 o5 ⊢
          have f1 := HE1.out.call hb5
          have f2 := HE2.out.call hb5
          have f4 := bel_call HE4.out hb5
          refine hK.out _ _ trivial (fun hH => ?_)
          clear hH hK K
          try simp only [Act.put, List.setIfInBounds_toArray, List.set_cons_zero, List.set_cons_succ]
          refine wpAnyH_one 3 (o := ?_) (by kernel_rfl) ?_ (fun K hK => ?_)
          rotate_left 1
          · simp only [List.getElem?_toArray, List.getElem?_cons_succ, List.getElem?_cons_zero]; rfl
          rw [if_pos (by rfl)]
          refine wp_store_row 149 _ _ rfl _ rfl _ rfl 149 _ f1 (info149 _ (by simpa using l5)) (by simp [l5, hl2]) o5 ?_
          refine hK.out _ _ trivial (fun hH => ?_)
          clear hH hK K
          refine wpAnyH_done (by kernel_rfl) ?_ _
          try simp only [Act.put]
          have r1 : RowV 149 w.heap.size nw5 (w5.setRow w.heap.size nw5.toArray) := setRow_heap _ _ _ _ 149 _ f1
          have r2 : RowV 136 (w.heap.size + 1) zv (w5.setRow w.heap.size nw5.toArray) := f2.setRow_other (by omega) _
          have r3 : Below w.heap.size w (w5.setRow w.heap.size nw5.toArray) := _root_.Go.below_setRow f4 (Nat.le_refl _) _
          have e1 := r1.alloc (.cells ((List.replicate 32 0).map (Value.int .u8)).toArray 136)
          have e2 := r2.alloc (.cells ((List.replicate 32 0).map (Value.int .u8)).toArray 136)
          have e3 := RowT.new 136 .u8 (w5.setRow w.heap.size nw5.toArray) (List.replicate 32 0)
          have e4 := bel_alloc r3 (.cells ((List.replicate 32 0).map (Value.int .u8)).toArray 136)
          have hD : w.heap.size + 1 < (w5.setRow w.heap.size nw5.toArray).heap.size := r2.lt
          rw [show (w5.setRow w.heap.size nw5.toArray).heap.size = w5.heap.size by simp [World.setRow]] at e3 hD
          have HST5 := Lib.hid hst5
          have hh5 := hst5.hl
          have hw5 := hst5.hw
          have hp5 := hst5.l
          have HNW5 := Lib.hid hnw5
          clear r1 r2 r3 f1 f2 f4 hst5 hnw5 o5 hb5 HE1 HE2 HE4 HADD
          go_upto_region 14 with fail
          refine wp_gen (fun U => RowV 149 w.heap.size nw5 U ∧ RowV 136 (w.heap.size + 1) zv U ∧ RowT 136 .u8 w5.heap.size (filP (digest hs5) 0) U ∧ Below w.heap.size w U) ⟨e1, e2, e3, e4⟩ ?_
          clear e1 e2 e3 e4
          generalize w5.heap.size = D at *
          rintro U ⟨e1, e2, e3, e4⟩
          go_loopw [36] (fun v wr => ∃ t : Nat, t ≤ 32 ∧ v = .int .i64 t ∧ RowV 149 w.heap.size nw5 wr ∧ RowV 136 (w.heap.size + 1) zv wr ∧ RowT 136 .u8 D (filP (digest hs5) t) wr ∧ Below w.heap.size w wr) (fun v _ => 32 - (intOf v).toNat)
          case atStart => exact ⟨0, by omega, rfl, e1, e2, e3, e4⟩
          case round =>
            clear e1 e2 e3 e4
            obtain ⟨t, ht, rfl, e1, e2, e3, e4⟩ := hrel
            have hdl := digest_len hs5
            by_cases hlt : t < 32
            · have c1 := e3.cell t (by rw [filP_len _ _ (by omega)]; omega)
              have f1 := e3.frozen t
              have ch := e1.cell (1 + t / 4)
              rw [← HNW5.out, stV_h _ _ _ _ (by omega)] at ch
              have hb5 := hw5.at (t / 4) (by omega)
              obtain ⟨v5, hv5⟩ : ∃ v5, hs5[t / 4]?.getD 0 / 2 ^ (24 - 8 * (t % 4)) % 256 = v5 := ⟨_, rfl⟩
              have g1 := e1.set_other (b := D) (o := t) (by omega) (.int .u8 v5)
              have g2 := e2.set_other (b := D) (o := t) (by omega) (.int .u8 v5)
              have g3 := e3.set t v5
              rw [filP_set _ _ (by omega) _ (by rw [digest_get _ _ hlt, hv5])] at g3
              have g4 := e4.setCell (p := ⟨D, t, none⟩) (show w.heap.size ≤ D by omega) (.int .u8 v5)
              have HV5 := Lib.hid hv5
              clear hv5
              generalize (filP (digest hs5) t)[t]?.getD 0 = z at *
              generalize hs5[t / 4]?.getD 0 = x5 at *
              have i0 : (0 : Int) ≤ (t : Int) := by omega
              have j0 : (t : Int) < 32 := by omega
              have HG1 := Lib.hid g1; have HG2 := Lib.hid g2; have HG3 := Lib.hid g3; have HG4 := Lib.hid g4
              clear g1 g2 g3 g4 e1 e2 e3 e4
              go_wp2_with fail
              rw [HV5.out]
              exact ⟨⟨t + 1, by omega, by go_num, HG1.out, HG2.out, HG3.out, HG4.out⟩, by simp [intOf]; omega⟩
            · obtain rfl : t = 32 := by omega
              have hsh : digest hs5 = shaF xs := by
                unfold shaF
                rw [← HST5.out.h]
              have e3' : RowT 136 .u8 D (shaF xs) wr := by
                have := filP_all (digest hs5)
                rw [hdl] at this
                rw [this] at e3; rw [← hsh]; exact e3
              have HSH := Lib.hid hsh
              have hsl2 := shaF_len xs
              obtain ⟨ws, hws⟩ : ∃ ws, shaF xs = ws := ⟨_, rfl⟩
              rw [hws] at e3' hsl2
              have HWS := Lib.hid hws
              have HI27 := Lib.hid (info136 (ws.map (Value.int .u8)).toArray.size (by simpa using hsl2))
              have HZ := Lib.hid (show zv.toArray.size = (ws.map (Value.int .u8)).toArray.size by simp [HZV.out, hsl2])
              have HO := Lib.hid (oneCell_map .u8 ws)
              have e3'' : wr.heap[D]? = some (.cells (ws.map (Value.int .u8)).toArray 136 (0, 0)) := e3'
              have hBf : Below w.heap.size w (wr.setRow (w.heap.size + 1) (ws.map (Value.int .u8)).toArray) := _root_.Go.below_setRow e4 (by omega) _
              have HBF := Lib.hid hBf
              clear hBf e1 e3 e3' hws
              go_wp2_with (first | (refine wpList_load_row rfl 136 _ rfl _ rfl 136 _ _ _ e3'' u_hash rfl HI27.out ?_) | (refine wpList_store_row rfl 136 _ _ rfl _ rfl _ rfl 136 _ e2 HI27.out HZ.out HO.out ?_))
              exact bodyPost_ret (v := .agg (ws.map (Value.int .u8)).toArray) (results_cell_row rfl _ _ _ 136 _ _ _ rfl (setRow_heap wr _ _ _ 136 _ e2) u_hash rfl HI27.out) rfl ⟨by rw [HWS.out], HBF.out⟩
    · have hI : ¬ ((xs.length : Int) + 1 + (j : Int)) % 64 = 56 := by omega
      have HA := Lib.hid (Add1_c hs pc n _ 0 w.heap.size (w.heap.size + 1) w.heap.size zv 136 nw hnw wr w hst (by omega) (by rw [hxl]; omega) hkW R1 R2 R3 R3.size)
      have HI := Lib.hid (info149 nw.toArray.size (by simpa using hl2))
      have HN := Lib.hid hna
      clear R2 R3 hna hst hnw hkW
      go_wp2_with (first
        | (refine wpList_load_row rfl 149 _ rfl _ rfl 149 _ _ _ R1 HU.out rfl HI.out ?_)
        | (go_at_call 104; (with_reducible refine HA.out.mono ?_); rintro e w2 ⟨hs2, pc2, n2, nw2, hnw2, rfl, hst2, k1, k2, k3⟩; clear R1)
        | (refine wpList_store_row rfl 149 _ _ rfl _ rfl _ rfl 149 _ k1 (info149 _ (by rw [← hnw2]; simpa using stV_len _ _ _ hst2.hl hst2.l)) (by rw [← hnw2]; simp [hl2, stV_len _ _ _ hst2.hl hst2.l]) (by rw [← hnw2]; exact stV_one _ _ _) ?_))
      have Q1 : RowV 149 w.heap.size nw2 (w2.setRow w.heap.size nw2.toArray) := setRow_heap _ _ _ _ 149 _ k1
      have Q2 : RowV 136 (w.heap.size + 1) zv (w2.setRow w.heap.size nw2.toArray) := k2.setRow_other (by omega) _
      have Q3 : Below w.heap.size w (w2.setRow w.heap.size nw2.toArray) := _root_.Go.below_setRow k3 (Nat.le_refl _) _
      rw [stV_add] at hst2
      have hxl2 : (xs ++ [128] ++ List.replicate (j + 1) 0).length = xs.length + 1 + (j + 1) := by simp; omega
      have e74 : nw2[73]? = some (.int .u64 ((xs.length + 1 + (j + 1) : Nat) : Int)) := by rw [← hnw2, stV_n _ _ _ hst2.hl hst2.l, hst2.n, hxl2]
      have c74 := Q1.cell 73
      rw [e74] at c74
      have hna2 : nAt w.heap.size (w2.setRow w.heap.size nw2.toArray) = (120 - (xs.length + 1 + (j + 1)) % 64) % 64 := by unfold nAt; rw [c74]; rfl
      dsimp only [Act.put]
      go_roundw
      case rel => exact ⟨j + 1, hs2, pc2, n2, nw2, by omega, hnw2, hst2, Q1, Q2, Q3⟩
      case measure => rw [hna2, HN.out]; omega
set_option maxRecDepth 100000 in
/-- the sum of bytes -/
theorem sha_c (v : Value) (xs : List Int) (w : World) (hv : RdB w v xs) (hxb : Bytes xs) (hsz : xs.length ≤ 100000000000) (hk : KTab w) :
    Calls Tryz.prog 100 #[v] w fun e w' => e = .returned (.agg ((shaF xs).map (Value.int .u8)).toArray) ∧ Below w.heap.size w w' := by
  obtain ⟨cs, hcs⟩ : ∃ cs, stV h0L (List.replicate 64 0) 0 = cs := ⟨_, rfl⟩
  have hbg : ∀ V, Calls Tryz.prog 103 #[] V fun e w' => e = .returned (.agg cs.toArray) ∧ Below V.heap.size V w' := fun V => by rw [← hcs]; exact Begin_c V
  have hadd : ∀ V, RdB V v xs → KTab V → Calls Tryz.prog 104 #[.agg cs.toArray, v] V fun e w' => ∃ hs' pc' n', e = .returned (.agg (stV hs' pc' n').toArray) ∧ StOk hs' pc' n' xs ∧ Below V.heap.size V w' := fun V h1 h2 => by
    rw [← hcs]; exact Add_c _ _ _ [] v xs V st_zero h1 hxb (by simp; omega) h2
  have HBG := Lib.hid hbg; have HADD := Lib.hid hadd
  clear hbg hadd hcs
  have hsl := shaF_len xs
  obtain ⟨ws, hws⟩ : ∃ ws, shaF xs = ws := ⟨_, rfl⟩
  rw [hws] at hsl
  have hend : ∀ hs pc n V, StOk hs pc n xs → KTab V → Calls Tryz.prog 105 #[.agg (stV hs pc n).toArray] V fun e w' => e = .returned (.agg (ws.map (Value.int .u8)).toArray) ∧ Below V.heap.size V w' := fun hs pc n V h1 h2 => by
    rw [← hws]; exact End_c hs pc n xs V h1 hsz h2
  have HEND := Lib.hid hend; have HWS := Lib.hid hws
  clear hend hws
  have h1 : RowT 136 .u8 w.heap.size (List.replicate 32 0) (w.alloc (.cells ((List.replicate 32 0).map (Value.int .u8)).toArray 136)) := RowT.new _ _ _ _
  have h2 : Below w.heap.size w (w.alloc (.cells ((List.replicate 32 0).map (Value.int .u8)).toArray 136)) := bel_alloc (Below.refl _ _) _
  go_enter Tryz.func100, Tryz.ntmps100
  go_upto_region 1 with fail
  refine wp_gen (fun W => (∃ zs : List Value, zs.length = 32 ∧ RowV 136 w.heap.size zs W) ∧ Below w.heap.size w W) ⟨⟨_, by simp, h1⟩, h2⟩ ?_
  clear h1 h2
  rintro W ⟨⟨zs, hzl, h1⟩, h2⟩
  have HZ := Lib.hid (show zs.toArray.size = (ws.map (Value.int .u8)).toArray.size by simp [hzl, hsl])
  have HI := Lib.hid (info136 (ws.map (Value.int .u8)).toArray.size (by simpa using hsl))
  have HO := Lib.hid (oneCell_map .u8 ws)
  go_upto_region 2 with (first
    | (go_at_call 103; (with_reducible refine (HBG.out _).mono ?_); rintro e w2 ⟨rfl, hb2⟩; have h3 := bel_call h2 hb2; have h12 := h1.call hb2)
    | (go_at_call 104; (with_reducible refine (HADD.out _ (hv.keep h3) (hk.call h3)).mono ?_); rintro e w3 ⟨hs3, pc3, n3, rfl, hst3, hb3⟩; have h4 := bel_call h3 hb3; have h13 := h12.call hb3)
    | (go_at_call 105; (with_reducible refine (HEND.out _ _ _ _ hst3 (hk.call h4)).mono ?_); rintro e w4 ⟨rfl, hb4⟩; have h5 := bel_call h4 hb4; have h14 := h13.call hb4)
    | (refine wpList_store_row rfl 136 _ _ rfl _ rfl _ rfl 136 _ h14 HI.out HZ.out HO.out ?_))
  exact bodyPost_ret (v := .agg (ws.map (Value.int .u8)).toArray) (results_cell_row rfl _ _ _ 136 _ _ _ rfl (setRow_heap _ _ _ _ 136 _ h14) u_hash rfl HI.out) rfl ⟨by rw [HWS.out], _root_.Go.below_setRow h5 (Nat.le_refl _) _⟩
end Go.Proofs.YtfohemgfiidokaaGreatDoor
