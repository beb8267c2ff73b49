/- The document's table and words of a piece. -/
import Derived.Test.YtfohemgfiidokaaGreatDoorTa
import Derived.ArgAppend
namespace Go.Proofs.YtfohemgfiidokaaGreatDoor
open Go.RowKit Go.Sort
attribute [local go_sem ↓] Go.wp_at_zero Go.wp_at_succ

theorem info32 : (Tryz.prog.info? 144).map (fun i => (i.zero, i.size, i.bytes)) = some (some (.int .u32 0), 1, 4) := by kernel_rfl
/-- a row of words of one's own -/
def RowW (w : World) (B : Nat) (v : Value) (xs : List Int) : Prop := w.ownsRow B 144 1 v xs.length (xs.map (Value.int .u32))
theorem RowW.keep {w w' : World} {B : Nat} {v : Value} {xs : List Int} (h : RowW w B v xs) (hb : Below w.heap.size w w') : RowW w' B v xs := ownsRow_keep h hb
theorem grown_belowW {B k : Nat} {W0 wr w1 : World} {v : Value} {xs : List Value} (hown : wr.ownsRow B 144 1 v k xs) (hB : Below B W0 wr) (hBs : B ≤ wr.heap.size) (hgrow : wr.grownBy w1 v.ownBlock) : Below B W0 w1 :=
  hB.grown hgrow hBs fun j hj => (hown.lt j hj).1
theorem RowW.rd {w : World} {B : Nat} {v : Value} {xs : List Int} (h : RowW w B v xs) (hn : 0 < xs.length) : ∃ g cap, v = .slice (some ⟨g, 0, none⟩) xs.length cap ∧ xs.length ≤ cap ∧ B ≤ g ∧ g < w.heap.size ∧ ∀ j, j < xs.length → w.cell? ⟨g, j, none⟩ = some (.int .u32 (xs[j]?.getD 0)) := by
  have h' : w.ownsRow B 144 1 v xs.length (xs.map (Value.int .u32)) := h
  obtain ⟨h1, h2⟩ := h
  rcases h2 with ⟨rfl, h2⟩ | ⟨g, cap, cur, rfl, e2, e3, e4, e5, e6, e7⟩
  · omega
  · have hc : ∀ j, j < xs.length → w.cell? ⟨g, j, none⟩ = some (.int .u32 (xs[j]?.getD 0)) := fun j hj => by
      rw [h'.cellAt j (by omega)]
      simp [List.getElem?_eq_getElem hj]
    exact ⟨g, cap, rfl, e4, e2, block_lt_of_cell (hc 0 hn), hc⟩
theorem rowW_nil (w : World) (B : Nat) : RowW w B (.slice none 0 0) [] := World.ownsRow_nil _ _ _ _

theorem k_c (w : World) : Calls Tryz.prog 107 #[] w fun e w' => e = .returned (.slice (some ⟨w.heap.size, 0, none⟩) 64 64) ∧ RowT 144 .u32 w.heap.size kTab w' ∧ Below w.heap.size w w' := by
  have h1 : RowT 144 .u32 w.heap.size kTab (w.alloc (.cells (kTab.map (Value.int .u32)).toArray 144)) := RowT.new _ _ _ _
  have h2 : Below w.heap.size w (w.alloc (.cells (kTab.map (Value.int .u32)).toArray 144)) := bel_alloc (Below.refl _ _) _
  go_enter Tryz.func107, Tryz.ntmps107
  go_wp2_with fail
  go_ret
  exact ⟨rfl, h1, h2⟩
/-- append of one word to a row of one's own, read while it grows: what was there stays where it was, too -/
theorem step_append_word {ops : Array Oper} {o : Oper} {a : Act} {K : Act → World → Prop} {Q : Exit → Act → World → Prop} {E : Prop} {w : World} (hgd : o.guard = none) (s x : Operand)
    (ho : o.op = .call { callee := .builtin .append, args := #[s, x], argTypes := #[153, 153] }) (base gg n cap3 : Nat) (ws : List Int) (z : Int) (hn : ws.length = n)
    (hs : a.eval s = .slice (some ⟨gg, 0, none⟩) n cap3) (hown : RowW w base (.slice (some ⟨gg, 0, none⟩) n cap3) ws) (B : Nat) (hx : a.eval x = .slice (some ⟨B, 0, none⟩) 1 1)
    (hnews : w.cell? ⟨B, 0, none⟩ = some (.int .u32 z)) (hlen : n ≤ 1000) (hbase : base ≤ w.heap.size)
    (h : ∀ v' w', RowW w' base v' (ws ++ [z]) → w.grownBy w' (some gg) → (∀ j, j < n → w'.cell? ⟨gg, j, none⟩ = some (.int .u32 (ws[j]?.getD 0))) → K (a.put o.dst v') w') :
    if Region.wanted o (yielded ops a.tmps) = true then Oper.wp Tryz.prog o a w K Q else E := by
  subst hn
  obtain ⟨i0, hi, hz0, hz1, hz2⟩ := info_parts info32
  have hw : Region.wanted o (yielded ops a.tmps) = true := by simp [Region.wanted, hgd]
  rw [if_pos hw]
  have hown' : w.ownsRow base 144 1 (.slice (some ⟨gg, 0, none⟩) ws.length cap3) ws.length (ws.map (Value.int .u32)) := hown
  have hnw : ∀ j u, ([Value.int .u32 z])[j]? = some u → w.cell? ((⟨B, 0, none⟩ : Addr).add j) = some u := fun j u hj => by
    rcases j with _ | j
    · simp at hj; subst hj; rw [Addr.add_lit]; exact hnews
    · simp at hj
  have hone : ∀ u ∈ [Value.int .u32 z], u.oneCell' = true := by simp [Value.oneCell']
  have holds : ∀ j, j < ws.length → w.cell? ⟨gg, j, none⟩ = some (.int .u32 (ws[j]?.getD 0)) := fun j hj => by
    rw [hown'.cellAt j (by omega)]
    simp [List.getElem?_eq_getElem hj]
  have hcat : ∀ (w' : World) (v' : Value) (B0 : Nat), B0 = base ∨ base ≤ B0 → w'.ownsRow B0 144 1 v' (ws.length + 1) (ws.map (Value.int .u32) ++ [.int .u32 z]) → RowW w' base v' (ws ++ [z]) := fun w' v' B0 hB h => by
    unfold RowW
    rw [show (ws ++ [z]).length = ws.length + 1 by simp, show (ws ++ [z]).map (Value.int .u32) = ws.map (Value.int .u32) ++ [.int .u32 z] by simp]
    obtain ⟨h1, h2⟩ := h
    refine ⟨h1, ?_⟩
    rcases h2 with h2 | ⟨g, cap, cur, e1, e2, e3⟩
    · exact .inl h2
    · exact .inr ⟨g, cap, cur, e1, by omega, e3⟩
  by_cases hroom : ws.length + 1 ≤ cap3
  · obtain ⟨w', hr, h2, h3⟩ := run_append_fits (P := Tryz.prog) (w := w) base 153 o.type 144 i0 1 Tryz.underlying153 hi hz1 gg ws.length cap3 (ws.map (Value.int .u32)) hown' ⟨B, 0, none⟩ 1 1 [.int .u32 z] rfl hnw hone hroom
    unfold Oper.wp execOp
    simp only [ho, resolve, invoke, builtin, Sem.run_bind, Sem.run_pure, Result.andThen_ok, List.map_toArray, List.map_cons, List.map_nil, hs, hx, hr]
    refine h _ w' (hcat _ _ base (.inl rfl) h2) h3 (fun j hj => ?_)
    rw [h2.cellAt j (by omega)]
    simp [List.getElem?_append_left, hj]
  · obtain ⟨v', w', hr, h2, h3⟩ := run_append_arg_grows (P := Tryz.prog) w 153 o.type 144 i0 (.int .u32 0) 1 4 Tryz.underlying153 hi hz0 hz1 hz2 rfl (by decide) ⟨gg, 0, none⟩ ws.length cap3 (ws.map (Value.int .u32)) (by simp) (fun j u hj => by
      have hjl : j < ws.length := by
        by_cases hjl : j < ws.length
        · exact hjl
        · rw [List.getElem?_eq_none (by simpa using hjl)] at hj; cases hj
      rw [Addr.add_lit, Nat.zero_add, holds j hjl, ← hj]; simp [hjl]) ⟨B, 0, none⟩ 1 1 [.int .u32 z] rfl hnw (by omega) (by unfold maxLen; omega) (by omega)
    unfold Oper.wp execOp
    simp only [ho, resolve, invoke, builtin, Sem.run_bind, Sem.run_pure, Result.andThen_ok, List.map_toArray, List.map_cons, List.map_nil, hs, hx, hr]
    obtain ⟨q1, q2, q3, q4, q5⟩ := h3
    refine h v' w' (hcat _ _ w.heap.size (.inr hbase) h2) ⟨q1, q2, q3, q4, fun k hk _ => q5 k hk (by simp)⟩ (fun j hj => ?_)
    have hlt := block_lt_of_cell (holds j hj)
    have := q5 gg hlt (by simp)
    have e : w'.cell? ⟨gg, j, none⟩ = w.cell? ⟨gg, j, none⟩ := by simp only [World.cell?, this]
    rw [e]; exact holds j hj
theorem new_cell (W : World) (x : Value) (T : TypeId) : (W.alloc (.cells #[x] T)).cell? ⟨W.heap.size, 0, none⟩ = some x := by simp
theorem or_shift (k : Nat) (a b : Nat) (hk : b < 2 ^ k) (h : 2 ^ k * a + b < 4294967296) : bits .or .u32 ((2 ^ k * a : Nat) : Int) (b : Int) = ((2 ^ k * a + b : Nat) : Int) := by
  rw [or_bv, BitVec.toNat_or, BitVec.ofInt_natCast, BitVec.ofInt_natCast, BitVec.toNat_ofNat, BitVec.toNat_ofNat, Nat.mod_eq_of_lt (by omega), Nat.mod_eq_of_lt (by omega)]
  rw [Nat.two_pow_add_eq_or_of_lt hk]
theorem or_be4 (a b c d : Int) (ha : 0 ≤ a ∧ a ≤ 255) (hb : 0 ≤ b ∧ b ≤ 255) (hc : 0 ≤ c ∧ c ≤ 255) (hd : 0 ≤ d ∧ d ≤ 255) :
    bits .or .u32 (bits .or .u32 (bits .or .u32 (a * 16777216) (b * 65536)) (c * 256)) d = a * 16777216 + b * 65536 + c * 256 + d := by
  obtain ⟨a, rfl⟩ := Int.eq_ofNat_of_zero_le ha.1
  obtain ⟨b, rfl⟩ := Int.eq_ofNat_of_zero_le hb.1
  obtain ⟨c, rfl⟩ := Int.eq_ofNat_of_zero_le hc.1
  obtain ⟨d, rfl⟩ := Int.eq_ofNat_of_zero_le hd.1
  have h1 := or_shift 24 a (b * 65536) (by omega) (by omega)
  have h2 := or_shift 16 (a * 256 + b) (c * 256) (by omega) (by omega)
  have h3 := or_shift 8 ((a * 256 + b) * 256 + c) d (by omega) (by omega)
  rw [show ((a : Int) * 16777216) = ((2 ^ 24 * a : Nat) : Int) by omega, show ((b : Int) * 65536) = ((b * 65536 : Nat) : Int) by omega, h1,
    show ((2 ^ 24 * a + b * 65536 : Nat) : Int) = ((2 ^ 16 * (a * 256 + b) : Nat) : Int) by omega, show ((c : Int) * 256) = ((c * 256 : Nat) : Int) by omega, h2,
    show ((2 ^ 16 * (a * 256 + b) + c * 256 : Nat) : Int) = ((2 ^ 8 * ((a * 256 + b) * 256 + c) : Nat) : Int) by omega, h3]
  omega
set_option maxRecDepth 100000 in
set_option maxHeartbeats 8000000 in
theorem words_c (g o cap : Nat) (ps : List Int) (w : World) (hl : ps.length = 64) (hp : Bytes ps) (hc : ∀ j, j < 64 → w.cell? ⟨g, o + j, none⟩ = some (.int .u8 (ps[j]?.getD 0))) :
    Calls Tryz.prog 108 #[.slice (some ⟨g, o, none⟩) 64 cap] w fun e w' => ∃ v', e = .returned v' ∧ RowW w' w.heap.size v' (sch ps 64) ∧ Below w.heap.size w w' := by
  obtain ⟨i0, hi, hz0, hz1, hz2⟩ := info_parts info32
  have hg : g < w.heap.size := block_lt_of_cell (hc 0 (by omega))
  have HC := Lib.hid hc
  have HL := Lib.hid hl
  clear hc hl
  go_enter Tryz.func108, Tryz.ntmps108
  go_wp2_with fail
  go_loopw [3, 4] (fun v i wr => ∃ t : Nat, t ≤ 16 ∧ i = .int .i64 t ∧ RowW wr w.heap.size v (sch ps t) ∧ Below w.heap.size w wr) (fun _ i _ => 16 - (intOf i).toNat)
  case atStart => exact ⟨0, by omega, rfl, rowW_nil _ _, Below.refl _ _⟩
  case round =>
    obtain ⟨t, ht, rfl, hR, hB⟩ := hrel
    by_cases hlt : t < 16
    · have hcell : ∀ W, Below w.heap.size w W → ∀ j, j < 4 → W.cell? ⟨g, o + (4 * t + j), none⟩ = some (.int .u8 (ps[4 * t + j]?.getD 0)) := fun W hW j hj => by
        rw [hW.cell hg]; exact HC.out _ (by omega)
      have b0 := hp.at (4 * t) (by rw [HL.out]; omega)
      have b1 := hp.at (4 * t + 1) (by rw [HL.out]; omega)
      have b2 := hp.at (4 * t + 2) (by rw [HL.out]; omega)
      have b3 := hp.at (4 * t + 3) (by rw [HL.out]; omega)
      have hbe := or_be4 _ _ _ _ b0 b1 b2 b3
      have hs : sch ps (t + 1) = sch ps t ++ [be4 ps t] := by simp [sch, hlt]
      have hbe4 : be4 ps t = ps[4 * t]?.getD 0 * 16777216 + ps[4 * t + 1]?.getD 0 * 65536 + ps[4 * t + 2]?.getD 0 * 256 + ps[4 * t + 3]?.getD 0 := rfl
      rw [← hbe4] at hbe
      have hBd : Below w.heap.size w wr.drew := bel_call hB (below_drewN wr 1)
      have k0 := hcell _ hBd 0 (by omega); have k1 := hcell _ hBd 1 (by omega); have k2 := hcell _ hBd 2 (by omega); have k3 := hcell _ hBd 3 (by omega)
      have hkeep : ∀ W, Below w.heap.size w W → W.cell? ⟨g, o + 4 * t, none⟩ = some (.int .u8 (ps[4 * t]?.getD 0)) ∧ W.cell? ⟨g, o + (4 * t + 1), none⟩ = some (.int .u8 (ps[4 * t + 1]?.getD 0)) ∧ W.cell? ⟨g, o + (4 * t + 2), none⟩ = some (.int .u8 (ps[4 * t + 2]?.getD 0)) ∧ W.cell? ⟨g, o + (4 * t + 3), none⟩ = some (.int .u8 (ps[4 * t + 3]?.getD 0)) := fun W hW => ⟨hcell W hW 0 (by omega), hcell W hW 1 (by omega), hcell W hW 2 (by omega), hcell W hW 3 (by omega)⟩
      simp only [Nat.add_zero] at k0
      have hslen := sch_len ps t
      generalize ps[4 * t]?.getD 0 = y0 at *
      generalize ps[4 * t + 1]?.getD 0 = y1 at *
      generalize ps[4 * t + 2]?.getD 0 = y2 at *
      generalize ps[4 * t + 3]?.getD 0 = y3 at *
      have hRd : RowW wr.drew w.heap.size _ (sch ps t) := hR
      unfold RowW at hRd
      obtain ⟨ws, hws⟩ : ∃ ws, sch ps t = ws := ⟨_, rfl⟩
      rw [hws] at hRd hs hslen
      have HK := Lib.hid hkeep; have HS := Lib.hid hs; have HB4 := Lib.hid hbe4
      have HBs := hB.size
      have HBd0 := hBd
      have HBd := hBd.size
      have w0 : IntKind.u32.wrap y0 = y0 := by rw [IntKind.wrap_u32]; omega
      have w1 : IntKind.u32.wrap y1 = y1 := by rw [IntKind.wrap_u32]; omega
      have w2 : IntKind.u32.wrap y2 = y2 := by rw [IntKind.wrap_u32]; omega
      have w3 : IntKind.u32.wrap y3 = y3 := by rw [IntKind.wrap_u32]; omega
      have s0 : IntKind.u32.wrap (y0 * 16777216) = y0 * 16777216 := by rw [IntKind.wrap_u32]; omega
      have s1 : IntKind.u32.wrap (y1 * 65536) = y1 * 65536 := by rw [IntKind.wrap_u32]; omega
      have s2 : IntKind.u32.wrap (y2 * 256) = y2 * 256 := by rw [IntKind.wrap_u32]; omega
      clear hkeep hs hbe4 hcell hR hws
      generalize be4 ps t = z at *
      obtain ⟨q, hq⟩ : ∃ q : Nat, 4 * t = q := ⟨_, rfl⟩
      obtain ⟨q1, hq1⟩ : ∃ q : Nat, 4 * t + 1 = q := ⟨_, rfl⟩
      obtain ⟨q2, hq2⟩ : ∃ q : Nat, 4 * t + 2 = q := ⟨_, rfl⟩
      obtain ⟨q3, hq3⟩ : ∃ q : Nat, 4 * t + 3 = q := ⟨_, rfl⟩
      have e0 : IntKind.i64.wrap (4 * (t : Int)) = (q : Int) := by rw [IntKind.wrap_i64]; omega
      have e1 : IntKind.i64.wrap ((q : Int) + 1) = (q1 : Int) := by rw [IntKind.wrap_i64]; omega
      have e2 : IntKind.i64.wrap ((q : Int) + 2) = (q2 : Int) := by rw [IntKind.wrap_i64]; omega
      have e3 : IntKind.i64.wrap ((q : Int) + 3) = (q3 : Int) := by rw [IntKind.wrap_i64]; omega
      have l0 : (0 : Int) ≤ (q : Int) := by omega
      have l1 : (0 : Int) ≤ (q1 : Int) := by omega
      have l2 : (0 : Int) ≤ (q2 : Int) := by omega
      have l3 : (0 : Int) ≤ (q3 : Int) := by omega
      have u0 : (q : Int) < 64 := by omega
      have u1 : (q1 : Int) < 64 := by omega
      have u2 : (q2 : Int) < 64 := by omega
      have u3 : (q3 : Int) < 64 := by omega
      rw [hq1, hq2, hq3, hq] at HK
      rw [hq1] at k1; rw [hq2] at k2; rw [hq3] at k3; rw [hq] at k0
      clear hq hq1 hq2 hq3
      go_wp2_with fail
      go_region_held3 (fun w' => w'.cell? ⟨g, o + q, none⟩ = some (.int .u8 y0) ∧ w'.cell? ⟨g, o + q1, none⟩ = some (.int .u8 y1) ∧ w'.cell? ⟨g, o + q2, none⟩ = some (.int .u8 y2) ∧ w'.cell? ⟨g, o + q3, none⟩ = some (.int .u8 y3)) (first | exact HK.out _ (bel_call (bel_alloc hB _) (below_drewN _ 1)) | exact HK.out _ hB2 | exact HK.out _ (bel_call hB2 (below_drewN _ 1)) | go_keep)
        (first | (refine step_append_lies _ (by rfl) _ _ _ (by rfl) w.heap.size 144 i0 (.int .u32 0) 1 4 Tryz.underlying153 hi hz0 hz1 hz2 rfl (by decide) _ _ _ (by rfl) (ownsRow_alloc hRd _) ⟨wr.heap.size, 0, none⟩ 1 1 [.int .u32 z] (by rfl) (by rfl) (World.news_of_block (cs := #[.int .u32 z]) (t := 144) (fr := (0, 0)) (heap_alloc_new _ _)) (by simp [Value.oneCell']) (by omega) (by unfold maxLen; omega) (by omega) (by simp; omega) (wr.heap.size + 1) (by simp) ?_; intro gg cap2 w1 hown' hgrow hat hlt'; have hB2 := grown_belowW (ownsRow_alloc hRd _) (Below.alloc HBd0 HBd _) (by simp; omega) hgrow))
      have hr : RowW w1 w.heap.size (.slice (some ⟨gg, 0, none⟩) (ws.length + 1) cap2) (sch ps (t + 1)) := by
        unfold RowW
        rw [HS.out, show (ws ++ [z]).length = ws.length + 1 by simp, show (ws ++ [z]).map (Value.int .u32) = ws.map (Value.int .u32) ++ [.int .u32 z] by simp]
        exact hown'
      clear hgrow hown'
      rw [hslen] at hr
      go_wp2
      go_roundw
      case rel => exact ⟨t + 1, by omega, by go_num, hr, hB2⟩
      case measure => simp [intOf]; omega
    · have htt : t = 16 := by omega
      subst htt
      rw [show ((16 : Nat) : Int) = 16 from rfl]
      have HR := Lib.hid hR; have HB := Lib.hid hB
      clear hR hB
      go_upto_region 7 with fail
      go_loopw [3, 5] (fun v i wr => ∃ t : Nat, 16 ≤ t ∧ t ≤ 64 ∧ i = .int .i64 t ∧ RowW wr w.heap.size v (sch ps t) ∧ Below w.heap.size w wr) (fun _ i _ => 64 - (intOf i).toNat)
      case atStart => exact ⟨16, by omega, by omega, rfl, HR.out, HB.out⟩
      case round =>
        clear HR HB
        obtain ⟨t, ht1, ht, rfl, hR, hB⟩ := hrel
        by_cases hlt : t < 64
        · have hslen := sch_len ps t
          obtain ⟨gg, cap3, hform, hcap3, hgg, hggl, hcell⟩ := RowW.rd hR (by omega)
          rw [hslen] at hform hcap3 hcell
          subst hform
          have hs : sch ps (t + 1) = sch ps t ++ [nextW (sch ps t) t] := by simp [sch, show ¬ t < 16 by omega]
          have c16 := hcell (t - 16) (by omega)
          have c15 := hcell (t - 15) (by omega)
          have c7 := hcell (t - 7) (by omega)
          have c2 := hcell (t - 2) (by omega)
          have hnx : nextW (sch ps t) t = IntKind.u32.wrap (IntKind.u32.wrap (IntKind.u32.wrap (sml1 ((sch ps t)[t - 2]?.getD 0) + (sch ps t)[t - 7]?.getD 0) + sml0 ((sch ps t)[t - 15]?.getD 0)) + (sch ps t)[t - 16]?.getD 0) := by
            rw [nextW_ref]; rfl
          have hkeep : ∀ W, Below wr.heap.size wr W → W.cell? ⟨gg, t - 7, none⟩ = some (.int .u32 ((sch ps t)[t - 7]?.getD 0)) ∧ W.cell? ⟨gg, t - 16, none⟩ = some (.int .u32 ((sch ps t)[t - 16]?.getD 0)) := fun W hW => ⟨by rw [hW.cell hggl]; exact hcell _ (by omega), by rw [hW.cell hggl]; exact hcell _ (by omega)⟩
          have hwd := sch_wds ps hp HL.out t
          have g15 := hwd.at (t - 15) (by omega)
          have g2 := hwd.at (t - 2) (by omega)
          obtain ⟨z, hz⟩ : ∃ z, nextW (sch ps t) t = z := ⟨_, rfl⟩
          rw [hz] at hs hnx
          obtain ⟨ws, hws⟩ : ∃ ws, sch ps t = ws := ⟨_, rfl⟩
          have hRw : RowW wr w.heap.size (.slice (some ⟨gg, 0, none⟩) t cap3) ws := by rw [← hws]; exact hR
          rw [hws] at hs hslen
          have HX7 := Lib.hid (show ∃ x, ws[t - 7]?.getD 0 = x ∧ (sch ps t)[t - 7]?.getD 0 = x from ⟨_, rfl, by rw [hws]⟩)
          have HX16 := Lib.hid (show ∃ x, ws[t - 16]?.getD 0 = x ∧ (sch ps t)[t - 16]?.getD 0 = x from ⟨_, rfl, by rw [hws]⟩)
          obtain ⟨x7, hx7, hx7'⟩ := HX7.out
          obtain ⟨x16, hx16, hx16'⟩ := HX16.out
          clear HX7 HX16
          rw [hx16'] at c16 hnx
          rw [hx7'] at c7 hnx
          rw [hx7', hx16'] at hkeep
          have HX7 := Lib.hid hx7
          have HX16 := Lib.hid hx16
          clear hx7 hx7' hx16 hx16' hws hR
          generalize (sch ps t)[t - 15]?.getD 0 = x15 at *
          generalize (sch ps t)[t - 2]?.getD 0 = x2 at *
          unfold sml1 sml0 at hnx
          obtain ⟨S1, hS1⟩ : ∃ S1, bits .xor .u32 (bits .xor .u32 (rr x2 17) (rr x2 19)) (x2 / 1024) = S1 := ⟨_, rfl⟩
          obtain ⟨S0, hS0⟩ : ∃ S0, bits .xor .u32 (bits .xor .u32 (rr x15 7) (rr x15 18)) (x15 / 8) = S0 := ⟨_, rfl⟩
          rw [hS1, hS0] at hnx
          have e16 : IntKind.i64.wrap ((t : Int) - 16) = ((t - 16 : Nat) : Int) := by rw [IntKind.wrap_i64]; omega
          have e7 : IntKind.i64.wrap ((t : Int) - 7) = ((t - 7 : Nat) : Int) := by rw [IntKind.wrap_i64]; omega
          have HNX := Lib.hid hnx; have HS := Lib.hid hs; have HK := Lib.hid hkeep
          have HBs := hB.size
          have hBd : Below w.heap.size w wr.drew := bel_call hB (below_drewN wr 1)
          have HBdd := hBd.size
          have HRW := Lib.hid (show RowW wr.drew w.heap.size (.slice (some ⟨gg, 0, none⟩) t cap3) ws from hRw)
          clear hnx hs hkeep hcell hz hRw
          go_wp2_with (first
            | (go_at_call 109; (with_reducible refine (rright7_c x15 _).mono ?_); rintro e w3 ⟨rfl, rfl⟩)
            | (go_at_call 109; (with_reducible refine (rright18_c x15 _).mono ?_); rintro e w3 ⟨rfl, rfl⟩)
            | (go_at_call 109; (with_reducible refine (rright17_c x2 _).mono ?_); rintro e w3 ⟨rfl, rfl⟩)
            | (go_at_call 109; (with_reducible refine (rright19_c x2 _).mono ?_); rintro e w3 ⟨rfl, rfl⟩))
          have hnx := HNX.out.symm
          have i7 : (0 : Int) ≤ ((t - 7 : Nat) : Int) := by omega
          have j7 : ((t - 7 : Nat) : Int) < (t : Int) := by omega
          have i16 : (0 : Int) ≤ ((t - 16 : Nat) : Int) := by omega
          have j16 : ((t - 16 : Nat) : Int) < (t : Int) := by omega
          clear hS0 hS1 c15 c2
          go_region_held3 (fun w' => w'.cell? ⟨gg, t - 7, none⟩ = some (.int .u32 x7) ∧ w'.cell? ⟨gg, t - 16, none⟩ = some (.int .u32 x16)) (first | exact HK.out _ (bel_call (bel_alloc (Below.refl _ wr) _) (below_drewN _ 1)) | exact ⟨HX7.out ▸ hkc (t - 7) (by omega), HX16.out ▸ hkc (t - 16) (by omega)⟩ | go_keep)
            (first | (refine step_append_word (by rfl) _ _ (by rfl) w.heap.size gg t cap3 ws z hslen (by rfl) (ownsRow_alloc HRW.out _) wr.heap.size (by rfl) (new_cell wr.drew _ _) (by omega) (by simp; omega) ?_; intro v2 w1 hown' hgrow hkc; have hB2 := grown_belowW (ownsRow_alloc HRW.out _) (Below.alloc hBd HBdd _) (by simp; omega) hgrow))
          rw [← HS.out] at hown'
          clear hgrow hkc
          go_wp2
          go_roundw
          case rel => exact ⟨t + 1, by omega, by omega, by go_num, hown', hB2⟩
          case measure => simp [intOf]; omega
        · obtain rfl : t = 64 := by omega
          have HR := Lib.hid hR; have HB := Lib.hid hB
          clear hR hB
          go_wp2_with fail
          go_ret
          exact ⟨_, rfl, HR.out, HB.out⟩
end Go.Proofs.YtfohemgfiidokaaGreatDoor
