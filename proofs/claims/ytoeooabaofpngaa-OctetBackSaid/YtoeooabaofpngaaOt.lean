/- Unturned, the reference's too. -/
import Derived.Test.YtoeooabaofpngaaOs
namespace Go.Proofs.Ytoeooabaofpngaa
open Go.RowKit Go.Sort
theorem results_row_slot {P : Program} {fn : Func} {p q : Tmp} {ty : TypeId} (h : fn.results = #[.cell p ty, .tmp q]) (tmps : Array Value) (w : World) (g : Nat) (t : TypeId) (cs : Array Value) (fr : Nat × Nat) (d : TypeDesc)
    (hp : tmps.getD p undef = .pointer (some ⟨g, 0, none⟩)) (hg : w.heap[g]? = some (.cells cs t fr))
    (hu : P.underlying ty = some d) (hd : (match d with | .struct _ | .array _ _ => true | _ => false) = true) (hi : (P.info? ty).map (·.size) = some cs.size) (v : Value) (hv : tmps.getD q undef = v) :
    (results fn tmps).run P w = .ok (.tuple #[.agg cs, v]) w := by
  have hp' : tmps[p]?.getD undef = .pointer (some ⟨g, 0, none⟩) := by simpa using hp
  have hv' : tmps[q]?.getD undef = v := by simpa using hv
  simp [results, h, hp', hv', asAddr, run_loadVar_row w g t ty cs fr d hg hu hd hi]
/-- what Unturned says: the hash, the error -/
def utB (l : List Int) : List Int := if uhE l = 0 ∧ (uhB l).length = 32 then (uhB l).reverse else List.replicate 32 0
def utE (l : List Int) : Int := if uhE l = 0 ∧ (uhB l).length = 32 then 0 else 5
theorem utB_len (l : List Int) : (utB l).length = 32 := by
  unfold utB; split
  · rename_i h; rw [List.length_reverse]; exact h.2
  · simp
theorem uhE_or (l : List Int) : uhE l = 0 ∨ uhE l = 5 := by unfold uhE; split; exact .inl rfl; exact .inr rfl
theorem uhB_len (l : List Int) : (uhB l).length ≤ l.length := by
  unfold uhB
  cases h : unhexI l with
  | none => simp
  | some m => have := (hex_unhex l m h).2.2; simp; omega
theorem uhB_bytes (l : List Int) : Bytes (uhB l) := by
  unfold uhB
  cases h : unhexI l with
  | none => intro b hb; simp at hb
  | some m => exact (hex_unhex l m h).2.1
set_option maxRecDepth 100000 in
set_option maxHeartbeats 1000000 in
theorem unturned_c (s : ByteArray) (w : World) (hl : s.size ≤ 1000000) :
    Calls Try.prog 18 #[.string s] w fun e w' => e = .returned (.tuple #[hsh (utB (numsOf s)), .int .i64 (utE (numsOf s))]) ∧ Below w.heap.size w w' := by
  have ku := fun W => unhex_c s W hl
  have hE := uhE_or (numsOf s)
  have hbl : (uhB (numsOf s)).length ≤ 1000000 := by have := uhB_len (numsOf s); rw [numsOf_len] at this; omega
  have hbb := uhB_bytes (numsOf s)
  have hlen := utB_len (numsOf s)
  obtain ⟨hv, hhv⟩ : ∃ hv, hv = utB (numsOf s) := ⟨_, rfl⟩
  obtain ⟨ev, hev⟩ : ∃ ev, ev = utE (numsOf s) := ⟨_, rfl⟩
  rw [← hhv, ← hev]
  rw [← hhv] at hlen
  unfold utB at hhv
  unfold utE at hev
  generalize uhE (numsOf s) = E at *
  generalize uhB (numsOf s) = ys at *
  have z32 : (List.replicate 32 (0 : Int)).length = 32 := by simp
  have HV := Lib.hid hhv; have EV := Lib.hid hev
  have HLV := Lib.hid hlen
  clear hhv hev hlen
  have r1 : RowU w.heap.size (List.replicate 32 0) ((w.alloc (.cells ((List.replicate 32 0).map (Value.int .u8)).toArray 34)).alloc (.cells ((List.replicate 32 0).map (Value.int .u8)).toArray 34)) := (RowU.new w _).alloc _
  have r2 : RowU (w.heap.size + 1) (List.replicate 32 0) ((w.alloc (.cells ((List.replicate 32 0).map (Value.int .u8)).toArray 34)).alloc (.cells ((List.replicate 32 0).map (Value.int .u8)).toArray 34)) := by
    have := RowU.new (w.alloc (.cells ((List.replicate 32 0).map (Value.int .u8)).toArray 34)) (List.replicate 32 0)
    simp only [World.size_alloc] at this
    exact this
  have hB2 : Below w.heap.size w ((w.alloc (.cells ((List.replicate 32 0).map (Value.int .u8)).toArray 34)).alloc (.cells ((List.replicate 32 0).map (Value.int .u8)).toArray 34)) := bel_alloc (bel_alloc (Below.refl _ _) _) _
  have R1 := Lib.hid r1; have R2 := Lib.hid r2
  clear r1 r2
  go_enter Try.func18, Try.ntmps18
  go_upto_region 2 with fail
  refine wp_gen (fun W => RowU w.heap.size (List.replicate 32 0) W ∧ RowU (w.heap.size + 1) (List.replicate 32 0) W ∧ Below w.heap.size w W) ⟨R1.out, R2.out, hB2⟩ ?_
  clear R1 R2 hB2
  rintro W ⟨cR, cH, hB⟩
  go_upto_region 3 with (go_at_call 16; with_reducible refine (ku W).mono ?_; rintro e w1 ⟨vb, rfl, hrow, hb1⟩)
  have cR1 := cR.call hb1
  have cH1 := cH.call hb1
  have hB1 := bel_call hB hb1
  have HB1 := hB1.size
  have LR := cR1.lt
  have LH := cH1.lt
  obtain ⟨pv, cap, rfl, hvc⟩ : ∃ p c, vb = .slice p ys.length c ∧ ys.length ≤ c := by
    rcases hrow.rd with ⟨rfl, rfl⟩ | ⟨a, g, o, cap, rfl, hc, ha, hcell⟩
    · exact ⟨_, _, rfl, Nat.le_refl _⟩
    · exact ⟨_, _, rfl, hc⟩
  have hrd := hrow.rd
  clear cR cH hB hb1
  have CR := Lib.hid cR1
  have CH := Lib.hid cH1
  by_cases hok : E = 0 ∧ ys.length = 32
  · obtain ⟨rfl, hyl⟩ := hok
    have e1 := HV.out
    have e2 := EV.out
    rw [if_pos ⟨rfl, hyl⟩] at e1 e2
    have E1 := Lib.hid e1
    have E2 := Lib.hid e2
    have HY := Lib.hid hyl
    clear e1 e2
    obtain ⟨a0, rfl, hcs⟩ : ∃ a0, pv = some a0 ∧ ∀ j u, (u8s ys)[j]? = some u → w1.cell? (a0.add j) = some u := by
      obtain ⟨a, c, e, -, hh⟩ := hrd.some' (by omega)
      injection e with e1 _ _
      exact ⟨a, e1, hh⟩
    have HCS := Lib.hid hcs
    have cH' : w1.heap[w.heap.size + 1]? = some (.cells ((List.replicate 32 (0 : Int)).map (Value.int .u8)).toArray 34 (0, 0)) := CH.out
    have hi1 : (Try.prog.info? 5).map (·.size) = some 1 := by kernel_rfl
    have hu8 : (u8s ys).length = 32 := by simp [u8s, hyl]
    have HU := Lib.hid hu8
    have HI := Lib.hid hi1
    have hf : (32 : Nat) ≤ cap := by omega
    rw [hyl]
    clear hyl cR1 cH1 hrd hrow hcs hi1 hu8 hvc
    go_upto_region 6 with (with_reducible refine wpList_copy_splice rfl _ _ 22 22 rfl 5 Try.underlying22 HI.out (some ⟨w.heap.size + 1, 0, none⟩) (some a0) 32 32 32 cap rfl rfl (w.heap.size + 1) 0 _ 34 cH' (u8s ys) ?k1 ?k2 ?k3 (u8s_one ys) (w.heap.size + 1) w1 (Below.refl _ _) (Nat.le_refl _) ?_)
    case k1 => exact HU.out
    case k2 => first | exact (fun _ => ⟨rfl, _, rfl, HCS.out⟩) | (intro _; exact HCS.out)
    case k3 => (rw [HU.out]; simp)
    intro w2 hg2 hb2
    have cH2 : RowU (w.heap.size + 1) ys w2 := by
      have h := hg2.out
      unfold RowU
      rw [h, splice, HU.out]
      simp [u8s]
    have cR2 : RowU w.heap.size (List.replicate 32 0) w2 := CR.out.below hb2 (by omega)
    have hB2 : Below w.heap.size w w2 := hB1.trans (hb2.mono (by omega))
    have kr := rev_c (w.heap.size + 1) 32 ys w2 cH2 hbl
    rw [HY.out] at kr
    have LR2 := cR2.lt
    have CR2 := Lib.hid cR2
    clear cH2 cR2 hg2 CR CH cH' hb2
    go_upto_region 7 with (go_at_call 36; with_reducible refine kr.mono ?_; rintro e w3 ⟨rfl, cH3, hB3⟩)
    have hb3 := hB3 w.heap.size w hB2 (by omega)
    have hb4 := hB3 (w.heap.size + 1) w2 (Below.refl _ _)  (Nat.le_refl _)
    have cR3 : RowU w.heap.size (List.replicate 32 0) w3 := CR2.out.below hb4 (by omega)
    have LR3 := cR3.lt
    have cH' : w3.heap[w.heap.size + 1]? = some (.cells (ys.reverse.map (Value.int .u8)).toArray 34 (0, 0)) := cH3
    have cR' : w3.heap[w.heap.size]? = some (.cells ((List.replicate 32 (0 : Int)).map (Value.int .u8)).toArray 34 (0, 0)) := cR3
    have i2 := info34 (ys.reverse.map (Value.int .u8)).toArray.size (by simp [HY.out])
    have hsz : ((List.replicate 32 (0 : Int)).map (Value.int .u8)).toArray.size = (ys.reverse.map (Value.int .u8)).toArray.size := by simp [HY.out]
    have I2 := Lib.hid i2
    have SZ := Lib.hid hsz
    clear hb4 hB3 cH3 cR3 i2 hsz
    generalize ys.reverse = zs at *
    go_wp2_with (first | (refine wpList_load_row rfl 34 _ rfl _ rfl 34 _ _ _ cH' Try.underlying34 rfl I2.out ?_) | (refine wpList_store_row rfl 34 _ _ rfl _ rfl _ rfl 34 _ cR' I2.out SZ.out (oneCell_map _) ?_))
    exact bodyPost_ret (v := .tuple #[hsh zs, .int .i64 0]) (results_row_slot rfl _ _ _ 34 _ _ _ rfl (setRow_heap w3 _ _ _ 34 _ cR') Try.underlying34 rfl I2.out _ rfl) rfl ⟨by rw [E1.out, E2.out], below_setRow hb3 (by omega) (by omega) _⟩
  · have e1 := HV.out
    have e2 := EV.out
    rw [if_neg hok] at e1 e2
    have E1 := Lib.hid e1
    have E2 := Lib.hid e2
    have hbad : E = 5 ∨ (E = 0 ∧ (ys.length : Int) ≠ 32) := by omega
    clear e1 e2 cR1 cH1 hok hrd hrow
    rcases hbad with rfl | ⟨rfl, hne⟩
    all_goals
      have cR' : w1.heap[w.heap.size]? = some (.cells ((List.replicate 32 (0 : Int)).map (Value.int .u8)).toArray 34 (0, 0)) := CR.out
      have cH' : w1.heap[w.heap.size + 1]? = some (.cells ((List.replicate 32 (0 : Int)).map (Value.int .u8)).toArray 34 (0, 0)) := CH.out
      go_wp2_with (first | (refine wpList_load_row rfl 34 _ rfl _ rfl 34 _ _ _ cH' Try.underlying34 rfl (info34 _ rfl) ?_) | (refine wpList_store_row rfl 34 _ _ rfl _ rfl _ rfl 34 _ cR' (info34 _ rfl) rfl (oneCell_map _) ?_))
      exact bodyPost_ret (v := .tuple #[hsh (List.replicate 32 0), .int .i64 5]) (results_row_slot rfl _ _ _ 34 _ _ _ rfl (setRow_heap w1 _ _ _ 34 _ cR') Try.underlying34 rfl (info34 _ rfl) _ rfl) rfl ⟨by rw [E1.out, E2.out], below_setRow hB1 (by omega) (by omega) _⟩

/-- what is turned when k of the bytes are laid -/
theorem revTo_at (ys : List Int) (k : Nat) (hl : ys.length = 32) (hk : k < 32) : (revTo ys k).set k (ys[31 - k]?.getD 0) = revTo ys (k + 1) := revTo_set ys k hl hk
set_option maxRecDepth 100000 in
set_option maxHeartbeats 1000000 in
theorem runturned_c (s : ByteArray) (w : World) (hl : s.size ≤ 1000000) :
    Calls Try.prog 19 #[.string s] w fun e w' => e = .returned (.tuple #[hsh (utB (numsOf s)), .int .i64 (utE (numsOf s))]) ∧ Below w.heap.size w w' := by
  have ku := fun W => runhex_c s W hl
  have hE := uhE_or (numsOf s)
  have hbl : (uhB (numsOf s)).length ≤ 1000000 := by have := uhB_len (numsOf s); rw [numsOf_len] at this; omega
  have hlen := utB_len (numsOf s)
  obtain ⟨hv, hhv⟩ : ∃ hv, hv = utB (numsOf s) := ⟨_, rfl⟩
  obtain ⟨ev, hev⟩ : ∃ ev, ev = utE (numsOf s) := ⟨_, rfl⟩
  rw [← hhv, ← hev]
  rw [← hhv] at hlen
  unfold utB at hhv
  unfold utE at hev
  generalize uhE (numsOf s) = E at *
  generalize uhB (numsOf s) = ys at *
  have HV := Lib.hid hhv; have EV := Lib.hid hev
  have HLV := Lib.hid hlen
  clear hhv hev hlen
  have r1 : RowU w.heap.size (List.replicate 32 0) ((w.alloc (.cells ((List.replicate 32 0).map (Value.int .u8)).toArray 34)).alloc (.cells ((List.replicate 32 0).map (Value.int .u8)).toArray 34)) := (RowU.new w _).alloc _
  have r2 : RowU (w.heap.size + 1) (List.replicate 32 0) ((w.alloc (.cells ((List.replicate 32 0).map (Value.int .u8)).toArray 34)).alloc (.cells ((List.replicate 32 0).map (Value.int .u8)).toArray 34)) := by
    have := RowU.new (w.alloc (.cells ((List.replicate 32 0).map (Value.int .u8)).toArray 34)) (List.replicate 32 0)
    simp only [World.size_alloc] at this
    exact this
  have hB2 : Below w.heap.size w ((w.alloc (.cells ((List.replicate 32 0).map (Value.int .u8)).toArray 34)).alloc (.cells ((List.replicate 32 0).map (Value.int .u8)).toArray 34)) := bel_alloc (bel_alloc (Below.refl _ _) _) _
  have R1 := Lib.hid r1; have R2 := Lib.hid r2
  clear r1 r2
  go_enter Try.func19, Try.ntmps19
  go_upto_region 2 with fail
  refine wp_gen (fun W => RowU w.heap.size (List.replicate 32 0) W ∧ RowU (w.heap.size + 1) (List.replicate 32 0) W ∧ Below w.heap.size w W) ⟨R1.out, R2.out, hB2⟩ ?_
  clear R1 R2 hB2
  rintro W ⟨cR, cH, hB⟩
  go_upto_region 3 with (go_at_call 17; with_reducible refine (ku W).mono ?_; rintro e w1 ⟨vb, rfl, hrow, hb1⟩)
  have cR1 := cR.call hb1
  have cH1 := cH.call hb1
  have hB1 := bel_call hB hb1
  have HB1 := hB1.size
  have LR := cR1.lt
  have LH := cH1.lt
  have WB : W.heap.size ≤ w1.heap.size := hb1.size
  have WR := cR.lt
  have WH := cH.lt
  by_cases hok : E = 0 ∧ ys.length = 32
  · obtain ⟨rfl, hyl⟩ := hok
    have e1 := HV.out
    have e2 := EV.out
    rw [if_pos ⟨rfl, hyl⟩] at e1 e2
    have E1 := Lib.hid e1
    have E2 := Lib.hid e2
    obtain ⟨g, cap, rfl, hg0, hg1⟩ := World.ownsRow.form hrow (by omega)
    have hcl : ∀ j, j < 32 → w1.cell? ⟨g, j, none⟩ = some (.int .u8 (ys[j]?.getD 0)) := fun j hj => by
      have := World.ownsRow.cellAt hrow j (by omega)
      rw [this]
      simp only [u8s, List.getElem?_map]
      rw [List.getElem?_eq_getElem (by omega)]; rfl
    have HCL := Lib.hid hcl
    have HY := Lib.hid hyl
    rw [hyl]
    have r0 : revTo ys 0 = List.replicate 32 0 := by simp [revTo]
    rw [← r0] at cH1
    clear e1 e2 hcl hyl hrow r0 cR cH hB hb1
    have hz : (32 : Nat) = 32 := rfl
    go_upto_region 6 with fail
    go_loopw [7] (fun i wr => ∃ k : Nat, k ≤ 32 ∧ i = .int .i64 k ∧ RowU w.heap.size (List.replicate 32 0) wr ∧ RowU (w.heap.size + 1) (revTo ys k) wr ∧ (∀ j, j < 32 → wr.cell? ⟨g, j, none⟩ = some (.int .u8 (ys[j]?.getD 0))) ∧ Below w.heap.size w wr) (fun i _ => 32 - (intOf i).toNat)
    case atStart => exact ⟨0, by omega, rfl, cR1, cH1, HCL.out, hB1⟩
    case round =>
      obtain ⟨k, hk, rfl, cR, cO, cG, hB⟩ := hrel
      have HB := hB.size
      clear cR1 cH1 HCL hB1
      by_cases hlt : k < 32
      · have c1 := cG (31 - k) (by omega)
        have f1 := cO.frozen k
        have c2 := cO.cell k (by rw [revTo_len ys k HY.out hk]; exact hlt)
        have hst := revTo_set ys k HY.out hlt
        generalize ys[31 - k]?.getD 0 = p at *
        have e31 : IntKind.i64.wrap (31 - (k : Int)) = ((31 - k : Nat) : Int) := by rw [IntKind.wrap_i64]; omega
        have hcap : 31 - k < 32 := by omega
        have HS := Lib.hid hst
        have CR := Lib.hid cR; have CO := Lib.hid cO; have CG := Lib.hid cG
        clear hst cR cO cG
        go_wp2
        go_roundw
        case rel => exact ⟨k + 1, by omega, by go_num, CR.out.set_other (by omega) _, by rw [← HS.out]; exact CO.out.set k p, fun j hj => by (have hne : g ≠ w.heap.size + 1 := (by omega)); simp [World.cell?, World.setCell, Array.getElem?_modify, Ne.symm hne]; exact CG.out j hj, hB.setCell (p := ⟨_, k, none⟩) (by simp) _⟩
        case measure => simp [intOf]; omega
      · obtain rfl : k = 32 := by omega
        rw [revTo_all ys HY.out] at cO
        have LR3 := cR.lt
        have cH' : wr.heap[w.heap.size + 1]? = some (.cells (ys.reverse.map (Value.int .u8)).toArray 34 (0, 0)) := cO
        have cR' : wr.heap[w.heap.size]? = some (.cells ((List.replicate 32 (0 : Int)).map (Value.int .u8)).toArray 34 (0, 0)) := cR
        have i2 := info34 (ys.reverse.map (Value.int .u8)).toArray.size (by simp [HY.out])
        have hsz : ((List.replicate 32 (0 : Int)).map (Value.int .u8)).toArray.size = (ys.reverse.map (Value.int .u8)).toArray.size := by simp [HY.out]
        have I2 := Lib.hid i2
        have SZ := Lib.hid hsz
        clear cG cO cR i2 hsz
        generalize ys.reverse = zs at *
        go_wp2_with (first | (refine wpList_load_row rfl 34 _ rfl _ rfl 34 _ _ _ cH' Try.underlying34 rfl I2.out ?_) | (refine wpList_store_row rfl 34 _ _ rfl _ rfl _ rfl 34 _ cR' I2.out SZ.out (oneCell_map _) ?_))
        exact bodyPost_ret (v := .tuple #[hsh zs, .int .i64 0]) (results_row_slot rfl _ _ _ 34 _ _ _ rfl (setRow_heap wr _ _ _ 34 _ cR') Try.underlying34 rfl I2.out _ rfl) rfl ⟨by rw [E1.out, E2.out], below_setRow hB (by omega) (by omega) _⟩
  · have e1 := HV.out
    have e2 := EV.out
    rw [if_neg hok] at e1 e2
    have E1 := Lib.hid e1
    have E2 := Lib.hid e2
    have hbad : E = 5 ∨ (E = 0 ∧ (ys.length : Int) ≠ 32) := by omega
    obtain ⟨pv, cap, rfl, hvc⟩ : ∃ p c, vb = .slice p ys.length c ∧ ys.length ≤ c := by
      rcases hrow.rd with ⟨rfl, rfl⟩ | ⟨a, g, o, cap, rfl, hc, ha, hcell⟩
      · exact ⟨_, _, rfl, Nat.le_refl _⟩
      · exact ⟨_, _, rfl, hc⟩
    have CR := Lib.hid cR1
    have CH := Lib.hid cH1
    clear e1 e2 cR1 cH1 hok hrow
    rcases hbad with rfl | ⟨rfl, hne⟩
    all_goals
      have cR' : w1.heap[w.heap.size]? = some (.cells ((List.replicate 32 (0 : Int)).map (Value.int .u8)).toArray 34 (0, 0)) := CR.out
      have cH' : w1.heap[w.heap.size + 1]? = some (.cells ((List.replicate 32 (0 : Int)).map (Value.int .u8)).toArray 34 (0, 0)) := CH.out
      go_wp2_with (first | (refine wpList_load_row rfl 34 _ rfl _ rfl 34 _ _ _ cH' Try.underlying34 rfl (info34 _ rfl) ?_) | (refine wpList_store_row rfl 34 _ _ rfl _ rfl _ rfl 34 _ cR' (info34 _ rfl) rfl (oneCell_map _) ?_))
      exact bodyPost_ret (v := .tuple #[hsh (List.replicate 32 0), .int .i64 5]) (results_row_slot rfl _ _ _ 34 _ _ _ rfl (setRow_heap w1 _ _ _ 34 _ cR') Try.underlying34 rfl (info34 _ rfl) _ rfl) rfl ⟨by rw [E1.out, E2.out], below_setRow hB1 (by omega) (by omega) _⟩
end Go.Proofs.Ytoeooabaofpngaa
