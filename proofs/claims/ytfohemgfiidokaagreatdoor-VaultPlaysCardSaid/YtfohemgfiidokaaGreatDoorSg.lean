/- Bytes added to a state. -/
import Derived.Test.YtfohemgfiidokaaGreatDoorSf
namespace Go.Proofs.YtfohemgfiidokaaGreatDoor
open Go.RowKit Go.Sort
attribute [local go_sem ↓] Go.wp_at_zero Go.wp_at_succ

def sliceLen : Value → Nat
  | .slice _ n _ => n
  | _ => 0
theorem RdB.len {w : World} {v : Value} {xs : List Int} (h : RdB w v xs) : sliceLen v = xs.length := by
  rcases h with ⟨rfl, rfl⟩ | ⟨a, g, o, cap, rfl, _⟩ <;> rfl
theorem RdB.below {w w' : World} {B : Nat} {v : Value} {xs : List Int} (h : RdB w v xs) (hb : Below B w w') (hB : ∀ g o, (∃ j, (w.cell? ⟨g, o + j, none⟩).isSome = true) → g < B) : RdB w' v xs := by
  rcases h with h | ⟨a, g, o, cap, h1, h2, h3, h4⟩
  · exact .inl h
  · exact .inr ⟨a, g, o, cap, h1, h2, h3, fun j hj => by rw [hb.cell (hB g o ⟨j, by rw [h4 j hj]; rfl⟩)]; exact h4 j hj⟩
/-- what lies behind k bytes -/
theorem slice_rd {w : World} {a : Addr} {g o len cap : Nat} {xs : List Int} (hl : len = xs.length) (hc : len ≤ cap) (ha : 0 < xs.length → a = ⟨g, o, none⟩) (h : ∀ j, j < xs.length → w.cell? ⟨g, o + j, none⟩ = some (.int .u8 (xs[j]?.getD 0))) (k : Nat) (hk : k ≤ len) :
    ∃ v2, (∀ W, (Instr.sliceAt 40 (.slice (some a) len cap) (some (.int .i64 k)) none none).run Tryz.prog W = .ok v2 W) ∧ (∀ W, (Instr.slice 40 (.slice (some a) len cap) (some (.int .i64 k)) none none).run Tryz.prog W = .ok v2 W) ∧ RdB w v2 (xs.drop k) := by
  have hu : Tryz.prog.underlying 40 = some (.slice (Tryz.prog.elem 40)) := by simp [Program.elem, Tryz.underlying40]
  have hr : ∀ W, (Instr.slice 40 (.slice (some a) len cap) (some (.int .i64 k)) none none).run Tryz.prog W = .ok (.slice (some (if cap = k then a else a.add k)) (len - k) (cap - k)) W := fun W => by
    have he : Tryz.prog.elem 40 = 5 := by simp [Program.elem, Tryz.underlying40]
    rw [run_slice_l W 40 (some a) len cap hu .i64 k (by omega) (by omega), he, Tryz.sizeOf5 W]
    simp only [Result.andThen_ok, sliced, Nat.mul_one, Int.toNat_natCast, Option.map_some]
    by_cases hck : cap = k <;> simp [hck]
  refine ⟨_, fun W => by rw [run_sliceAt_slice (h := hu)]; exact hr W, hr, .inr ⟨if cap = k then a else a.add k, g, o + k, cap - k, ?_, by simp; omega, fun hp => ?_, fun j hj => ?_⟩⟩
  · rw [List.length_drop, hl]
  · rw [List.length_drop] at hp
    rw [if_neg (by omega), ha (by omega), Addr.add_lit]
  · rw [List.length_drop] at hj
    rw [Nat.add_assoc, h (k + j) (by omega), List.getElem?_drop]

theorem wpList_copy_pos {P : Program} {w : World} {ops : Array Oper} {rest : List Oper} {o : Oper} {a : Act} {Q : Exit → Act → World → Prop} (hgd : o.guard = none) (d s : Operand) (dT sT : TypeId)
    (ho : o.op = .call { callee := .builtin .copy, args := #[d, s], argTypes := #[dT, sT] }) (elem : TypeId) (hu : P.underlying dT = some (.slice elem)) (hsz : (P.info? elem).map (·.size) = some 1)
    (g off dLen dCap : Nat) (ad : Addr) (sLen sCap : Nat) (hd : a.eval d = .slice (some ⟨g, off, none⟩) dLen dCap) (hs : a.eval s = .slice (some ad) sLen sCap)
    (cur : List Value) (t : TypeId) (hg : RowV t g cur w) (cs : List Value) (k : Nat) (hk : cs.length = k) (hn : k = Nat.min sLen dLen)
    (hsrc : ∀ j v, cs[j]? = some v → w.cell? (ad.add j) = some v) (hfit : off + k ≤ cur.length) (h1 : ∀ v ∈ cs, v.oneCell' = true)
    (nw : List Value) (hnw : splice cur off cs = nw)
    (h : wpList P ops Q rest (a.put o.dst (goInt k)) (w.setRow g nw.toArray)) : wpList P ops Q (o :: rest) a w := by
  subst hk
  subst hnw
  exact wpList_copy_own hgd d s dT sT ho elem hu hsz g off dLen dCap ad sLen sCap hd hs cur.toArray t hg cs hn hsrc (by simpa using hfit) h1 (by simpa [splice] using h)
theorem info15 : (Tryz.prog.info? 5).map (·.size) = some 1 := by kernel_rfl
set_option maxRecDepth 100000 in
set_option maxHeartbeats 8000000 in
theorem Add_c (hs pc : List Int) (n : Int) (xs : List Int) (v : Value) (bs : List Int) (w : World) (s : StOk hs pc n xs) (hv : RdB w v bs) (hby : Bytes bs) (hsz : xs.length + bs.length ≤ 1000000000000) (hk : KTab w) :
    Calls Tryz.prog 104 #[.agg (stV hs pc n).toArray, v] w fun e w' => ∃ hs' pc' n', e = .returned (.agg (stV hs' pc' n').toArray) ∧ StOk hs' pc' n' (xs ++ bs) ∧ Below w.heap.size w w' := by
  obtain ⟨vs, hvl, hzs⟩ := zero_state'
  obtain ⟨fs, hu⟩ := u_state'
  have HU := Lib.hid hu
  have HV := Lib.hid hvl
  obtain ⟨cs, hcs⟩ : ∃ cs, stV hs pc n = cs := ⟨_, rfl⟩
  have h1 : RowV 149 w.heap.size (stV hs pc n) ((w.alloc (.cells cs.toArray 149)).alloc (.cells vs.toArray 149)) := by rw [hcs]; exact (RowV.new _ _ _).alloc _
  have h2 : RowV 149 (w.heap.size + 1) vs ((w.alloc (.cells cs.toArray 149)).alloc (.cells vs.toArray 149)) := by
    have := RowV.new 149 (w.alloc (.cells cs.toArray 149)) vs
    rwa [show (w.alloc (.cells cs.toArray 149)).heap.size = w.heap.size + 1 by simp] at this
  have h3 : Below w.heap.size w ((w.alloc (.cells cs.toArray 149)).alloc (.cells vs.toArray 149)) := bel_alloc (bel_alloc (Below.refl _ _) _) _
  have hvW := hv.keep h3
  rw [hcs]
  have HC := Lib.hid hcs
  clear hcs hvl hu
  go_enter Tryz.func104, Tryz.ntmps104
  go_upto_region 1 with fail
  refine wp_gen (fun W => RowV 149 w.heap.size (stV hs pc n) W ∧ RowV 149 (w.heap.size + 1) vs W ∧ Below w.heap.size w W ∧ RdB W v bs) ⟨h1, h2, h3, hvW⟩ ?_
  clear h1 h2 h3 hvW
  rintro W ⟨h1, h2, h3, hvW⟩
  have c0 : W.cell? ⟨w.heap.size, 0, none⟩ = some (.bool true) := by rw [h1.cell 0]; rfl
  go_wp2_with fail
  have HS := Lib.hid s; have HR := Lib.hid h1; have HR2 := Lib.hid h2; have HB := Lib.hid h3
  clear s h1 h2 h3 c0
  go_loopw [1] (fun v1 wr => ∃ (t : Nat) (hs pc : List Int) (n : Int), t ≤ bs.length ∧ RdB w v1 (bs.drop t) ∧ StOk hs pc n (xs ++ bs.take t) ∧ RowV 149 w.heap.size (stV hs pc n) wr ∧ RowV 149 (w.heap.size + 1) vs wr ∧ Below w.heap.size w wr) (fun v1 _ => sliceLen v1)
  case atStart => exact ⟨0, hs, pc, n, by omega, by simpa using hv, by simpa using HS.out, HR.out, HR2.out, HB.out⟩
  case round =>
    clear HS HR HR2 HB hvW HC
    obtain ⟨t, hs, pc, n, ht, hrd, hst, hR, hR2, hB⟩ := hrel
    have hlen := hrd.len
    have hB2 := hB.size
    have hlr := hR.lt; have hlr2 := hR2.lt
    by_cases hpos : t < bs.length
    · rcases hrd with ⟨rfl, he⟩ | ⟨a, gb, ob, cap, rfl, hcap, ha, hcell⟩
      · have := congrArg List.length he; simp at this; omega
      have hm : (bs.drop t).length = bs.length - t := by simp
      have hn := hst.n
      have hl64 := hst.l
      have hhl := hst.hl
      have hL : (xs ++ bs.take t).length = xs.length + t := by simp; omega
      obtain ⟨r, hr⟩ : ∃ r, r = (xs.length + t) % 64 := ⟨_, rfl⟩
      obtain ⟨k, hkk⟩ : ∃ k, k = Nat.min (bs.length - t) (64 - r) := ⟨_, rfl⟩
      have hkle : k ≤ bs.length - t ∧ k ≤ 64 - r ∧ 0 < k := by
        rw [hkk]; have : r < 64 := by omega
        exact ⟨Nat.min_le_left _ _, Nat.min_le_right _ _, by rw [Nat.lt_min]; omega⟩
      rw [hL] at hn
      obtain ⟨ys, hys⟩ : ∃ ys, (bs.drop t).take k = ys := ⟨_, rfl⟩
      have hyl : ys.length = k := by rw [← hys]; simp; omega
      have hyb : Bytes ys := by rw [← hys]; exact (hby.drop t).take k
      have hcat : (xs ++ bs.take t) ++ ys = xs ++ bs.take (t + k) := by
        rw [← hys, List.append_assoc, ← List.take_add]
      obtain ⟨v2, hs1, hs2, hrd2⟩ := slice_rd (len := (bs.drop t).length) (cap := cap) rfl hcap ha hcell k (by omega)
      rw [List.drop_drop] at hrd2
      have c73 := hR.cell 73
      rw [stV_n _ _ _ hhl hl64] at c73
      have f73 := hR.frozen 73
      have hsl : ∀ W, (Instr.sliceAt 147 (.pointer (some ⟨w.heap.size, 9, none⟩)) (some (.int .u64 (((xs.length : Int) + (t : Int)) % 64))) none none).run Tryz.prog W = .ok (.slice (some ⟨w.heap.size, 9 + r, none⟩) (64 - r) (64 - r)) W := fun W => by
        rw [run_slice64_from w.heap.size 9 .u64 (((xs.length : Int) + (t : Int)) % 64) W (by omega) (by omega), show (((xs.length : Int) + (t : Int)) % 64).toNat = r by omega]
      have hcw : ∀ j, j < (bs.drop t).length → wr.cell? ⟨gb, ob + j, none⟩ = some (.int .u8 ((bs.drop t)[j]?.getD 0)) := fun j hj => by rw [hB.cell (block_lt_of_cell (hcell j hj))]; exact hcell j hj
      have hsrc := rd_cell ha hcw k
      rw [hys] at hsrc
      have hpcl : (splice pc r ys).length = 64 := by rw [length_splice _ _ _ (by omega)]; exact hl64
      have hnew : splice (stV hs pc n) (9 + r) (ys.map (Value.int .u8)) = stV hs (splice pc r ys) n := stV_pc _ _ _ _ _ hhl (by omega)
      obtain ⟨nw, hnw⟩ : ∃ nw, stV hs (splice pc r ys) n = nw := ⟨_, rfl⟩
      obtain ⟨pc2, hpc2⟩ : ∃ pc2, splice pc r ys = pc2 := ⟨_, rfl⟩
      rw [hnw] at hnew
      have hR3 : RowV 149 w.heap.size nw (wr.setRow w.heap.size nw.toArray) := setRow_heap _ _ _ _ 149 _ hR
      have hR4 := hR2.setRow_other (b := w.heap.size) (by omega) nw.toArray
      have hB3 : Below w.heap.size w (wr.setRow w.heap.size nw.toArray) := _root_.Go.below_setRow hB (Nat.le_refl _) _
      have hSL := Lib.hid (stV_len hs pc n hhl hl64)
      have HN := Lib.hid hnew
      have HS := Lib.hid hsrc
      have HO := Lib.hid (oneCell_map' .u8 ys)
      have HYL := Lib.hid (show (ys.map (Value.int .u8)).length = k by simpa using hyl)
      have HR3 := Lib.hid hR3; have HR4 := Lib.hid hR4; have HB3 := Lib.hid hB3
      clear hR3 hR4 hB3 hnew hsrc hcw
      rw [hn] at c73
      rw [hm] at hs1 hs2 hcap ⊢
      have HR := Lib.hid hR; have HR2 := Lib.hid hR2; have HB := Lib.hid hB; have HST := Lib.hid hst
      have HS2 := Lib.hid hrd2; have HCAT := Lib.hid hcat
      have HYB := Lib.hid hyb; have HCELL := Lib.hid hcell; have HA := Lib.hid ha
      clear hR hR2 hB hst hrd2 hcat hyb hcell ha hlen
      have hfit : 9 + r + k ≤ (stV hs pc n).length := by rw [hSL.out]; omega
      have hkm : k = Nat.min (bs.length - t) (64 - r) := hkk
      have hr64 : r < 64 := by omega
      have HRR := Lib.hid hr
      clear hr
      clear hkk
      have HFIT := Lib.hid hfit; have HKM := Lib.hid hkm; have HLN := Lib.hid hnw; have HPC2 := Lib.hid hpc2
      clear hfit hkm hnw hpc2 hys
      go_upto_region 5 with (refine wpList_copy_pos rfl (.tmp 17) (.tmp 18) 40 40 rfl 5 Tryz.underlying40 info15 _ _ _ _ a _ _ rfl rfl _ 149 HR.out _ k HYL.out HKM.out HS.out HFIT.out HO.out nw HN.out ?_)
      refine wp_gen (fun W => RowV 149 w.heap.size nw W ∧ RowV 149 (w.heap.size + 1) vs W ∧ Below w.heap.size w W) ⟨HR3.out, HR4.out, HB3.out⟩ ?_
      clear HR HR2 HB HR3 HR4 HB3 HN HS HO HYL c73 f73 hB2 hlr hlr2
      rintro W2 ⟨hR, hR2, hB⟩
      have hpl2 : pc2.length = 64 := by rw [← HPC2.out]; exact hpcl
      have c73 := hR.cell 73
      rw [← HLN.out, HPC2.out, stV_n _ _ _ hhl hpl2, hn] at c73
      have f73 := hR.frozen 73
      have hset := hR.set 73 (.int .u64 ((xs.length : Int) + (t : Int) + (k : Int)))
      rw [← HLN.out, HPC2.out, stV_setn _ _ _ _ hhl hpl2] at hset
      have hset2 := hR2.set_other (b := w.heap.size) (o := 73) (by omega) (.int .u64 ((xs.length : Int) + (t : Int) + (k : Int)))
      have hB3 := hB.setCell (p := ⟨w.heap.size, 73, none⟩) (Nat.le_refl _) (.int .u64 ((xs.length : Int) + (t : Int) + (k : Int)))
      have HR := Lib.hid hset; have HR2 := Lib.hid hset2; have HB := Lib.hid hB3
      have hkb : k ≤ bs.length := by omega
      clear hset hset2 hB3 hR hR2 hB
      go_upto_region 7 with fail
      refine wp_gen (fun W => RowV 149 w.heap.size (stV hs pc2 ((xs.length : Int) + (t : Int) + (k : Int))) W ∧ RowV 149 (w.heap.size + 1) vs W ∧ Below w.heap.size w W) ⟨HR.out, HR2.out, HB.out⟩ ?_
      clear HR HR2 HB c73 f73
      rintro W3 ⟨hR, hR2, hB⟩
      have c73 := hR.cell 73
      rw [stV_n _ _ _ hhl hpl2] at c73
      have hst := HST.out
      have hrL : (xs ++ bs.take t).length % 64 = r := by rw [hL, HRR.out]
      have hlen3 : ((xs ++ bs.take (t + k)).length : Int) = (xs.length : Int) + (t : Int) + (k : Int) := by simp; omega
      have hmeas : sliceLen v2 < bs.length - t := by rw [HS2.out.len]; simp; omega
      by_cases hmod : (xs.length + t + k) % 64 = 0
      · have hfull := hst.full HYB.out (by rw [hrL, hyl]; have := HRR.out; omega)
        rw [hrL, HPC2.out, HCAT.out, hlen3] at hfull
        have hrange : W3.rangeAt w.heap.size 1 (hs.map (Value.int .u32)) := fun j v hv => by
          have hj : j < hs.length := by
            by_cases hj : j < hs.length
            · exact hj
            · rw [List.getElem?_eq_none (by simpa using hj)] at hv; cases hv
          rw [hR.cell, stV_h _ _ _ _ hj, ← hv]; simp [hj]
        have hrange9 : W3.rangeAt w.heap.size 9 (pc2.map (Value.int .u8)) := fun j v hv => by
          have hj : j < pc2.length := by
            by_cases hj : j < pc2.length
            · exact hj
            · rw [List.getElem?_eq_none (by simpa using hj)] at hv; cases hv
          rw [hR.cell, stV_p _ _ _ _ hhl hj, ← hv]; simp [hj]
        have hcall := fun (hb2 : Bytes pc2) => with_c w.heap.size 9 hs pc2 W3 hhl hst.hw hpl2 hb2 hrange9 hR.lt (hk.below hB hk.lt)
        have hcall2 := hcall hfull.b
        have hcl := comp_len hs pc2 hhl
        obtain ⟨cm, hcm⟩ : ∃ cm, comp hs pc2 = cm := ⟨_, rfl⟩
        rw [hcm] at hcall2 hfull hcl
        have HCALL := Lib.hid hcall2; have HF := Lib.hid hfull; have HRG := Lib.hid hrange; have HR := Lib.hid hR; have HR2 := Lib.hid hR2; have HB := Lib.hid hB
        have hi8 : (Tryz.prog.info? 146).map (·.size) = some (hs.map (Value.int .u32)).length := info146 _ (by simpa using hhl)
        have hi8c : (Tryz.prog.info? 146).map (·.size) = some (cm.map (Value.int .u32)).toArray.size := info146 _ (by simpa using hcl)
        have HI := Lib.hid hi8; have HIC := Lib.hid hi8c
        have hmodI : ((xs.length : Int) + (t : Int) + (k : Int)) % 64 = 0 := by omega
        have hSL := stV_len hs pc2 ((xs.length : Int) + (t : Int) + (k : Int)) hhl hpl2
        have HOC := Lib.hid (all_oneCell_toArray (oneCell_map' .u32 cm))
        have HSS := Lib.hid (stV_hs hs cm pc2 ((xs.length : Int) + (t : Int) + (k : Int)) hhl hcl)
        have hcml : (cm.map (Value.int .u32)).length = 8 := by simpa using hcl
        clear hcall hcall2 hfull hrange hrange9 hR hR2 hB hi8 hi8c hcm hst hmod
        go_wp2_with (first
          | (refine wpList_load_mid rfl 146 _ rfl w.heap.size 1 rfl (hs.map (Value.int .u32)) _ HRG.out u_words rfl HI.out ?_)
          | (go_at_call 111; (with_reducible refine HCALL.out.mono ?_); rintro e w4 ⟨rfl, hb4⟩; have hR4 := Lib.hid (HR.out.call hb4); have hR24 := Lib.hid (HR2.out.call hb4); have hB4 := Lib.hid (bel_call HB.out hb4); have hTH := Lib.hid (hR4.out.there 1 8 (by rw [hSL]; omega)))
          | (refine wpList_store_mid rfl 146 _ _ rfl w.heap.size 1 (cm.map (Value.int .u32)).toArray rfl rfl (by simpa [hcml] using hTH.out) HIC.out HOC.out ?_))
        have hbs := hR4.out.setCells (cm.map (Value.int .u32)) 1 (by rw [hSL, hcml]; omega)
        rw [HSS.out] at hbs
        have hbo : RowV 149 (w.heap.size + 1) vs (w4.setCells w.heap.size 1 (cm.map (Value.int .u32))) := hR24.out.setCells_other (by omega) _ _
        have hbb : Below w.heap.size w (w4.setCells w.heap.size 1 (cm.map (Value.int .u32))) := below_setCells _ (Nat.le_refl _) _ _ hB4.out
        dsimp only [Act.put]
        go_roundw
        case rel => exact ⟨t + k, cm, pc2, _, by omega, HS2.out, HF.out, hbs, hbo, hbb⟩
        case measure => exact hmeas
      · have hsome := hst.some HYB.out (by rw [hrL, hyl]; omega) (by rw [hL, hyl]; exact hmod)
        rw [hrL, HPC2.out, HCAT.out, hlen3] at hsome
        have hmodI : ¬ ((xs.length : Int) + (t : Int) + (k : Int)) % 64 = 0 := by omega
        have HR := Lib.hid hR; have HR2 := Lib.hid hR2; have HB := Lib.hid hB; have HF := Lib.hid hsome
        clear hR hR2 hB hsome hst
        go_wp2_with fail
        exact ⟨⟨t + k, hs, pc2, _, by omega, HS2.out, HF.out, HR.out, HR2.out, HB.out⟩, hmeas⟩
    · have htl : t = bs.length := by omega
      rw [htl, List.take_of_length_le (Nat.le_refl _)] at hst
      rw [htl, List.drop_of_length_le (Nat.le_refl _)] at hrd
      have hv1 : ∃ p c, u1 = .slice p 0 c := by
        rcases hrd with ⟨rfl, _⟩ | ⟨a, gb, ob, cap, rfl, _⟩
        · exact ⟨_, _, rfl⟩
        · exact ⟨_, _, rfl⟩
      obtain ⟨p, c, rfl⟩ := hv1
      have hSL := stV_len hs pc n hst.hl hst.l
      have HO := Lib.hid (stV_one hs pc n)
      have HST := Lib.hid hst
      have hr1 : RowV 149 w.heap.size (stV hs pc n) wr := hR
      clear hlen hrd hR hst
      obtain ⟨nv, hnv⟩ : ∃ nv, stV hs pc n = nv := ⟨_, rfl⟩
      rw [hnv] at hr1 hSL HO
      have HNV := Lib.hid hnv
      have HI := Lib.hid (info149 nv.toArray.size (by simpa using hSL))
      have HZ := Lib.hid (show vs.toArray.size = nv.toArray.size by simp [HV.out, hSL])
      have hBf : Below w.heap.size w (wr.setRow (w.heap.size + 1) nv.toArray) := _root_.Go.below_setRow hB (by omega) _
      have HB := Lib.hid hBf
      clear hnv hBf
      go_wp2_with (first | (refine wpList_load_row rfl 149 _ rfl _ rfl 149 _ _ _ hr1 HU.out rfl HI.out ?_) | (refine wpList_store_row rfl 149 _ _ rfl _ rfl _ rfl 149 _ hR2 HI.out HZ.out HO.out ?_))
      exact bodyPost_ret (v := .agg nv.toArray) (results_cell_row rfl _ _ _ 149 _ _ _ rfl (setRow_heap wr _ _ _ 149 _ hR2) HU.out rfl HI.out) rfl ⟨hs, pc, n, by rw [HNV.out], HST.out, HB.out⟩
end Go.Proofs.YtfohemgfiidokaaGreatDoor
