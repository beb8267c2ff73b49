/- The document's sum. -/
import Derived.Test.YtfohemgfiidokaaGreatDoorTb
import Derived.StillTail
import Derived.StillTactics
namespace Go.Proofs.YtfohemgfiidokaaGreatDoor
open Go.RowKit Go.Sort
attribute [local go_sem ↓] Go.wp_at_zero Go.wp_at_succ

/-- the row of eight words of a round, as the document spells it -/
theorem rnd_ref (s : St8) (k w : Int) :
    rnd s k w = ⟨IntKind.u32.wrap (IntKind.u32.wrap (IntKind.u32.wrap (IntKind.u32.wrap (IntKind.u32.wrap (s.h + bigS1 s.e) + bits .xor .u32 (bits .and .u32 s.e s.f) (bits .and .u32 (bits .xor .u32 4294967295 s.e) s.g)) + k) + w) + IntKind.u32.wrap (bigS0 s.a + bits .xor .u32 (bits .xor .u32 (bits .and .u32 s.a s.b) (bits .and .u32 s.a s.c)) (bits .and .u32 s.b s.c))), s.a, s.b, s.c, IntKind.u32.wrap (s.d + IntKind.u32.wrap (IntKind.u32.wrap (IntKind.u32.wrap (IntKind.u32.wrap (s.h + bigS1 s.e) + bits .xor .u32 (bits .and .u32 s.e s.f) (bits .and .u32 (bits .xor .u32 4294967295 s.e) s.g)) + k) + w)), s.e, s.f, s.g⟩ := by
  rw [ch_eq, maj_eq]; rfl
theorem padL_bytes (xs : List Int) (h : Bytes xs) : Bytes (padL xs) := by
  refine h.append (Bytes.append (fun b hb => ?_) (Bytes.append (fun b hb => ?_) (be8_bytes _)))
  · simp at hb; omega
  · have := List.eq_of_mem_replicate hb; omega
theorem RowO.cells {w : World} {B : Nat} {v : Value} {xs : List Int} (h : RowO w B v xs) (hn : 0 < xs.length) : ∃ g cap, v = .slice (some ⟨g, 0, none⟩) xs.length cap ∧ B ≤ g ∧ xs.length ≤ cap ∧ ∀ j, j < xs.length → w.cell? ⟨g, j, none⟩ = some (.int .u8 (xs[j]?.getD 0)) := by
  have h' : w.ownsRow B 5 1 v xs.length (u8s xs) := h
  obtain ⟨h1, h2⟩ := h
  rcases h2 with ⟨rfl, h2⟩ | ⟨g, cap, cur, rfl, e2, e3, e4, e5, e6, e7⟩
  · omega
  · refine ⟨g, cap, rfl, e2, e4, fun j hj => ?_⟩
    rw [h'.cellAt j (by omega)]
    simp [u8s, List.getElem?_eq_getElem hj]
/-- what stands while the document's sum is reckoned: the result's row, the words, the table, the text -/
structure HSt (B : Nat) (w0 : World) (zv : List Value) (T gt : Nat) (L hs : List Int) (W : World) : Prop where
  z : RowV 136 B zv W
  h : RowT 144 .u32 (B + 1) hs W
  k : RowT 144 .u32 T kTab W
  t : ∀ q, q < L.length → W.cell? ⟨gt, q, none⟩ = some (.int .u8 (L[q]?.getD 0))
  b : Below B w0 W
theorem HSt.call {B T gt : Nat} {w0 W W' : World} {zv : List Value} {L hs : List Int} (s : HSt B w0 zv T gt L hs W) (hB : B ≤ W.heap.size) (hb : Below W.heap.size W W') : HSt B w0 zv T gt L hs W' :=
  ⟨s.z.call hb, s.h.call hb, s.k.call hb, fun q hq => by rw [hb.cell (block_lt_of_cell (s.t q hq))]; exact s.t q hq, s.b.trans (hb.mono hB)⟩
theorem cell_set_block {W : World} {g b o j : Nat} {v : Value} (hne : b ≠ g) : (W.setCell ⟨b, o, none⟩ v).cell? ⟨g, j, none⟩ = W.cell? ⟨g, j, none⟩ := by
  simp [World.setCell, World.cell?, Array.getElem?_modify, hne]
theorem HSt.set {B T gt : Nat} {w0 W : World} {zv : List Value} {L hs : List Int} (s : HSt B w0 zv T gt L hs W) (hT : B + 1 ≠ T) (hg : B + 1 ≠ gt) (j : Nat) (v : Int) : HSt B w0 zv T gt L (hs.set j v) (W.setCell ⟨B + 1, j, none⟩ (.int .u32 v)) :=
  ⟨s.z.set_other (by omega) _, s.h.set j v, s.k.set_other (fun e => hT e.symm) _, fun q hq => by rw [cell_set_block hg]; exact s.t q hq, s.b.setCell (p := ⟨B + 1, j, none⟩) (by show B ≤ B + 1; omega) _⟩
/-- the row of a round's words -/
def LRow (W : World) (B : Nat) (v : Value) (s : St8) : Prop := ∃ g cap, v = .slice (some ⟨g, 0, none⟩) 8 cap ∧ 8 ≤ cap ∧ B ≤ g ∧ ∀ j, j < 8 → W.cell? ⟨g, j, none⟩ = some (.int .u32 (s.l[j]?.getD 0))
theorem LRow.call {W W' : World} {B : Nat} {v : Value} {s : St8} (h : LRow W B v s) (hb : Below W.heap.size W W') : LRow W' B v s := by
  obtain ⟨g, cap, h1, h2, h3, h4⟩ := h
  exact ⟨g, cap, h1, h2, h3, fun j hj => by rw [hb.cell (block_lt_of_cell (h4 j hj))]; exact h4 j hj⟩
theorem LRow.new (W : World) (s : St8) : LRow (W.alloc (.cells #[.int .u32 s.a, .int .u32 s.b, .int .u32 s.c, .int .u32 s.d, .int .u32 s.e, .int .u32 s.f, .int .u32 s.g, .int .u32 s.h] 144)) W.heap.size (.slice (some ⟨W.heap.size, 0, none⟩) 8 8) s := by
  refine ⟨_, 8, rfl, by omega, Nat.le_refl _, fun j hj => ?_⟩
  have h : RowT 144 .u32 W.heap.size s.l (W.alloc (.cells (s.l.map (Value.int .u32)).toArray 144)) := RowT.new _ _ _ _
  exact h.cell j hj
theorem LRow.new' (W : World) (B : Nat) (x1 a b c x2 e f g y1 y2 : Int) (h1 : x1 = y1) (h2 : x2 = y2) (hB : B ≤ W.heap.size) : LRow (W.alloc (.cells #[.int .u32 x1, .int .u32 a, .int .u32 b, .int .u32 c, .int .u32 x2, .int .u32 e, .int .u32 f, .int .u32 g] 144)) B (.slice (some ⟨W.heap.size, 0, none⟩) 8 8) ⟨y1, a, b, c, y2, e, f, g⟩ := by
  subst h1; subst h2
  obtain ⟨g', cap, k1, k2, k3, k4⟩ := LRow.new W ⟨x1, a, b, c, x2, e, f, g⟩
  exact ⟨g', cap, k1, k2, by omega, k4⟩
/-- the words of which the first k are added -/
def addTo (hs ls : List Int) (k : Nat) : List Int := (addW hs ls).take k ++ hs.drop k
theorem addW_len (hs ls : List Int) (h : hs.length = 8) (l : ls.length = 8) : (addW hs ls).length = 8 := by simp [addW, h, l]
theorem addTo_len (hs ls : List Int) (h : hs.length = 8) (l : ls.length = 8) (k : Nat) (hk : k ≤ 8) : (addTo hs ls k).length = 8 := by simp [addTo, addW_len hs ls h l, h]; omega
theorem addTo_get (hs ls : List Int) (h : hs.length = 8) (l : ls.length = 8) (k : Nat) (hk : k < 8) : (addTo hs ls k)[k]?.getD 0 = hs[k]?.getD 0 := by
  have e : ((addW hs ls).take k).length = k := by rw [List.length_take, addW_len hs ls h l]; omega
  unfold addTo
  rw [List.getElem?_append_right (by omega), e, Nat.sub_self, List.getElem?_drop]
  rfl
theorem addTo_set (hs ls : List Int) (h : hs.length = 8) (l : ls.length = 8) (k : Nat) (hk : k < 8) : (addTo hs ls k).set k (IntKind.u32.wrap (hs[k]?.getD 0 + ls[k]?.getD 0)) = addTo hs ls (k + 1) := by
  have e : ((addW hs ls).take k).length = k := by rw [List.length_take, addW_len hs ls h l]; omega
  have hd : hs.drop k = hs[k]?.getD 0 :: hs.drop (k + 1) := by
    rw [List.drop_eq_getElem_cons (by omega), List.getElem?_eq_getElem (by omega)]; rfl
  have ht : (addW hs ls).take (k + 1) = (addW hs ls).take k ++ [IntKind.u32.wrap (hs[k]?.getD 0 + ls[k]?.getD 0)] := by
    rw [List.take_succ_eq_append_getElem (by rw [addW_len hs ls h l]; omega)]
    congr 2
    simp only [addW, List.getElem_zipWith]
    rw [List.getElem?_eq_getElem (by omega), List.getElem?_eq_getElem (by omega)]
    rfl
  unfold addTo
  rw [List.set_append, if_neg (by omega), e, Nat.sub_self, hd, List.set_cons_zero, ht, List.append_assoc]
  rfl
theorem addTo_all (hs ls : List Int) (h : hs.length = 8) (l : ls.length = 8) : addTo hs ls 8 = addW hs ls := by
  unfold addTo
  rw [List.take_of_length_le (by rw [addW_len hs ls h l]; omega), List.drop_of_length_le (by omega), List.append_nil]
theorem all32 : (if IntKind.u32.signed = true then (-1 : Int) else IntKind.u32.max) = 4294967295 := rfl
set_option maxRecDepth 100000 in
set_option maxHeartbeats 8000000 in
theorem rsum_c (v : Value) (xs : List Int) (w : World) (hv : RdB w v xs) (hxb : Bytes xs) (hsz : xs.length ≤ 100000000) :
    Calls Tryz.prog 102 #[v] w fun e w' => e = .returned (.agg ((shaF xs).map (Value.int .u8)).toArray) ∧ Below w.heap.size w w' := by
  obtain ⟨i0, hi, hz0, hz1, hz2⟩ := info_parts info32
  have h1 : RowT 136 .u8 w.heap.size (List.replicate 32 0) ((w.alloc (.cells ((List.replicate 32 0).map (Value.int .u8)).toArray 136)).alloc (.cells (h0L.map (Value.int .u32)).toArray 144)) := (RowT.new _ _ _ _).alloc _
  have h2 : RowT 144 .u32 (w.heap.size + 1) h0L ((w.alloc (.cells ((List.replicate 32 0).map (Value.int .u8)).toArray 136)).alloc (.cells (h0L.map (Value.int .u32)).toArray 144)) := by
    have := RowT.new 144 .u32 (w.alloc (.cells ((List.replicate 32 0).map (Value.int .u8)).toArray 136)) h0L
    rwa [show (w.alloc (.cells ((List.replicate 32 0).map (Value.int .u8)).toArray 136)).heap.size = w.heap.size + 1 by simp] at this
  have h3 : Below w.heap.size w ((w.alloc (.cells ((List.replicate 32 0).map (Value.int .u8)).toArray 136)).alloc (.cells (h0L.map (Value.int .u32)).toArray 144)) := bel_alloc (bel_alloc (Below.refl _ _) _) _
  go_enter Tryz.func102, Tryz.ntmps102
  go_upto_region 2 with fail
  refine wp_gen (fun W => (∃ zv : List Value, zv.length = 32 ∧ RowV 136 w.heap.size zv W) ∧ RowT 144 .u32 (w.heap.size + 1) h0L W ∧ Below w.heap.size w W) ⟨⟨_, by simp, h1⟩, h2, h3⟩ ?_
  clear h1 h2 h3
  rintro W ⟨⟨zv, hzv, h1⟩, h2, h3⟩
  have HT := Lib.hid (text_c v xs W (hv.keep h3) hsz)
  go_upto_region 4 with (first
    | (go_at_call 106; (with_reducible refine HT.out.mono ?_); rintro e w2 ⟨vt, rfl, hrt, hb2⟩; have h32 := bel_call h3 hb2; have h12 := h1.call hb2; have h22 := h2.call hb2; have hrd := hrt.rd)
    | (go_at_call 107; (with_reducible refine (k_c _).mono ?_); rintro e w3 ⟨rfl, hk3, hb3⟩; have h33 := bel_call h32 hb3; have h13 := h12.call hb3; have h23 := h22.call hb3; have hrt3 := hrt.keep hb3))
  have hWs := h22.lt
  have hWs1 := h2.lt
  have hpos : 0 < (padL xs).length := by rw [padL_len]; omega
  have hmod := padL_mod xs
  have hplen := padL_len xs
  have hpz : padZ xs.length < 64 := Nat.mod_lt _ (by omega)
  have hpb : Bytes (padL xs) := padL_bytes xs hxb
  obtain ⟨gt, capl, hvt, hgtlo, hcapl, hcl⟩ := RowO.cells hrt3 hpos
  have hT2 : w.heap.size + 1 < w2.heap.size := h22.lt
  have hgt : w.heap.size + 1 < gt := by omega
  have HS := Lib.hid (show HSt w.heap.size w zv w2.heap.size gt (padL xs) h0L w3 from ⟨h13, h23, hk3, hcl, h33⟩)
  have HSHA := Lib.hid (show digest (blk (padL xs) ((padL xs).length / 64)) = shaF xs from rfl)
  clear HT h1 h2 h3 h32 h12 h22 hrd hrt h33 h13 h23 hrt3 hk3 hcl hb2 hb3
  obtain ⟨L, hL⟩ : ∃ L, padL xs = L := ⟨_, rfl⟩
  rw [hL] at hvt hpos hmod hplen hpb hcapl HS HSHA
  obtain ⟨N, hN⟩ : ∃ N, L.length = N := ⟨_, rfl⟩
  rw [hN] at hvt hpos hmod hplen hcapl HSHA
  have HL := Lib.hid hL; have HN := Lib.hid hN
  subst hvt
  clear hL hN hpos
  have hNsz : N ≤ 100000100 := by omega
  clear hplen hWs hWs1
  obtain ⟨B, hB⟩ : ∃ B, w.heap.size = B := ⟨_, rfl⟩
  obtain ⟨T, hT⟩ : ∃ T, w2.heap.size = T := ⟨_, rfl⟩
  rw [hB, hT] at HS
  rw [hB] at hT2 hgt ⊢
  rw [hT] at hT2 ⊢
  clear hT
  go_wp2_with fail
  go_loopw [6] (fun v wr => ∃ i q : Nat, q = 64 * i ∧ q ≤ N ∧ v = .int .i64 q ∧ HSt B w zv T gt L (blk L i) wr ∧ B + 2 ≤ wr.heap.size) (fun v _ => N - (intOf v).toNat)
  case atStart => exact ⟨0, 0, rfl, by omega, rfl, HS.out, by have := HS.out.k.lt; omega⟩
  case round =>
    clear HS
    obtain ⟨i, q, hq, hqN, rfl, hS, hsz2⟩ := hrel
    by_cases hlt : q < N
    · have hqN2 : q + 64 ≤ N := by omega
      have hpl : ((L.drop q).take 64).length = 64 := by rw [List.length_take, List.length_drop, HN.out]; omega
      have hpp : Bytes ((L.drop q).take 64) := (hpb.drop q).take 64
      have hcc : ∀ j, j < 64 → wr.cell? ⟨gt, q + j, none⟩ = some (.int .u8 (((L.drop q).take 64)[j]?.getD 0)) := fun j hj => by
        rw [hS.t (q + j) (by rw [HN.out]; omega), List.getElem?_take, if_pos hj, List.getElem?_drop]
      have hbl : blk L (i + 1) = comp (blk L i) ((L.drop q).take 64) := by rw [hq]; rfl
      have HW := Lib.hid (words_c gt q (capl - q) _ wr hpl hpp hcc)
      obtain ⟨ps, hps⟩ : ∃ ps, (L.drop q).take 64 = ps := ⟨_, rfl⟩
      rw [hps] at HW hbl hpp hpl
      have hh8 : (blk L i).length = 8 := blk_len _ _
      have hwd : Wds (blk L i) := blk_wds _ _
      obtain ⟨hs, hhs⟩ : ∃ hs, blk L i = hs := ⟨_, rfl⟩
      rw [hhs] at hS hbl hh8 hwd
      have HBL := Lib.hid hbl; have HPL := Lib.hid hpl; have HH8 := Lib.hid hh8; have HQ := Lib.hid hq
      clear hcc hps hhs hbl hpl hh8 hq
      have e64 : IntKind.i64.wrap ((q : Int) + 64) = ((q + 64 : Nat) : Int) := by rw [IntKind.wrap_i64]; omega
      have HSS := Lib.hid hS
      clear hS
      go_upto_region 8 with (go_at_call 108; (with_reducible refine HW.out.mono ?_); rintro e w4 ⟨vw, rfl, hrw, hb4⟩; have hS4 := HSS.out.call (by omega) hb4; have hsz4 := hb4.size)
      obtain ⟨gw, capw, hvw, hcapw, hgwlo, hgwlt, hcw⟩ := RowW.rd hrw (by rw [sch_len]; omega)
      rw [sch_len] at hvw hcapw hcw
      subst hvw
      have HW4 := Lib.hid (And.intro hS4 hcw)
      have hn0 : (w4.alloc (.cells #[] 144)).ownsRow w4.heap.size 144 1 (.slice (some ⟨w4.heap.size, 0, none⟩) 0 0) 0 [] := ⟨rfl, .inr ⟨_, 0, #[], rfl, Nat.le_refl _, heap_alloc_new _ _, Nat.le_refl _, by unfold maxLen; omega, rfl, rfl⟩⟩
      have hS5 := hS4.call (by omega) (bel_alloc (Below.refl _ w4) (.cells #[] 144))
      have hcell : ∀ j u, (hs.map (Value.int .u32))[j]? = some u → (w4.alloc (.cells #[] 144)).cell? ((⟨B + 1, 0, none⟩ : Addr).add j) = some u := fun j u hj => by
        have hjl : j < hs.length := by
          by_cases hjl : j < hs.length
          · exact hjl
          · rw [List.getElem?_eq_none (by simpa using hjl)] at hj; cases hj
        rw [Addr.add_lit, Nat.zero_add, hS5.h.cell j hjl, ← hj]
        simp [hjl]
      have HCELL := Lib.hid hcell; have HN0 := Lib.hid hn0
      have HM := Lib.hid (show (hs.map (Value.int .u32)).length = 8 by simpa using HH8.out)
      clear hcell hn0 hS5 hcw hS4 hrw hb4
      go_upto_region 9 with (at_builtin; go_loud (refine wpList_append_own _ rfl _ _ 153 rfl w4.heap.size 144 i0 (.int .u32 0) 1 4 Tryz.underlying153 hi hz0 hz1 hz2 rfl (by decide) _ _ _ rfl HN0.out ⟨B + 1, 0, none⟩ 8 8 (hs.map (Value.int .u32)) rfl HM.out HCELL.out (oneCell_map' .u32 hs) (by unfold maxLen; omega) (by omega) (by simp) ?_); intro v8 w5 hown5 hgrow5 hx8; clear hx8)
      have hR8 : RowW w5 w4.heap.size v8 hs := by
        unfold RowW
        rw [HH8.out]
        simpa using hown5
      have hb5 : Below w4.heap.size w4 w5 := grown_belowW HN0.out (bel_alloc (Below.refl _ w4) _) (by simp) hgrow5
      clear hown5 hgrow5 HN0 HCELL
      have hl5 : LRow w5 (B + 2) v8 (rnds ps (St8.of hs) 0) := by
        obtain ⟨g, cap, h1, h2, h3, h4, h5⟩ := RowW.rd hR8 (by rw [HH8.out]; omega)
        rw [HH8.out] at h1 h2 h5
        exact ⟨g, cap, h1, h2, by omega, fun j hj => by rw [h5 j hj]; show _ = some (Value.int .u32 ((St8.of hs).l[j]?.getD 0)); rw [St8.of_l hs HH8.out]⟩
      have hS5 := HW4.out.1.call (by omega) hb5
      have hcw5 : ∀ j, j < 64 → w5.cell? ⟨gw, j, none⟩ = some (.int .u32 ((sch ps 64)[j]?.getD 0)) := fun j hj => by rw [hb5.cell (show gw < w4.heap.size from hgwlt)]; exact HW4.out.2 j hj
      have HA := Lib.hid (And.intro hl5 (And.intro hS5 hcw5))
      have hsz5 := hb5.size
      clear hl5 hS5 hcw5 hR8 hb5 HW4
      go_wp2_with fail
      go_loopw [8, 9] (fun v c wr => ∃ t : Nat, t ≤ 64 ∧ c = .int .i64 t ∧ LRow wr (B + 2) v (rnds ps (St8.of hs) t) ∧ HSt B w zv T gt L hs wr ∧ (∀ j, j < 64 → wr.cell? ⟨gw, j, none⟩ = some (.int .u32 ((sch ps 64)[j]?.getD 0))) ∧ B + 2 ≤ wr.heap.size) (fun _ c _ => 64 - (intOf c).toNat)
      case atStart => exact ⟨0, by omega, rfl, HA.out.1, HA.out.2.1, HA.out.2.2, by omega⟩
      case round =>
        clear HA
        obtain ⟨t, ht, rfl, hl, hS, hcw, hszr⟩ := hrel
        by_cases hlt64 : t < 64
        · have hrnd : rnds ps (St8.of hs) (t + 1) = rnd (rnds ps (St8.of hs) t) (kTab[t]?.getD 0) ((sch ps 64)[t]?.getD 0) := rfl
          rw [rnd_ref] at hrnd
          have ck := hS.k.cell t (by rw [kTab_len]; exact hlt64)
          have cw := hcw t hlt64
          generalize kTab[t]?.getD 0 = kt at *
          generalize (sch ps 64)[t]?.getD 0 = wt at *
          generalize rnds ps (St8.of hs) t = st at *
          obtain ⟨a, b, c, d, e, f, g, h⟩ := st
          obtain ⟨lg, lcap, rfl, hlcap, hlgB, hcl⟩ := hl
          have c0 : wr.cell? ⟨lg, 0, none⟩ = some (.int .u32 a) := hcl 0 (by omega)
          have c1 : wr.cell? ⟨lg, 1, none⟩ = some (.int .u32 b) := hcl 1 (by omega)
          have c2 : wr.cell? ⟨lg, 2, none⟩ = some (.int .u32 c) := hcl 2 (by omega)
          have c3 : wr.cell? ⟨lg, 3, none⟩ = some (.int .u32 d) := hcl 3 (by omega)
          have c4 : wr.cell? ⟨lg, 4, none⟩ = some (.int .u32 e) := hcl 4 (by omega)
          have c5 : wr.cell? ⟨lg, 5, none⟩ = some (.int .u32 f) := hcl 5 (by omega)
          have c6 : wr.cell? ⟨lg, 6, none⟩ = some (.int .u32 g) := hcl 6 (by omega)
          have c7 : wr.cell? ⟨lg, 7, none⟩ = some (.int .u32 h) := hcl 7 (by omega)
          have ht0 : (0 : Int) ≤ (t : Int) := by omega
          have ht64 : (t : Int) < 64 := by omega
          obtain ⟨S1, hS1⟩ : ∃ S1, bits .xor .u32 (bits .xor .u32 (rr e 6) (rr e 11)) (rr e 25) = S1 := ⟨_, rfl⟩
          obtain ⟨S0, hS0⟩ : ∃ S0, bits .xor .u32 (bits .xor .u32 (rr a 2) (rr a 13)) (rr a 22) = S0 := ⟨_, rfl⟩
          unfold bigS1 bigS0 at hrnd
          simp only [] at hrnd
          rw [hS1, hS0] at hrnd
          have HRND := Lib.hid hrnd; have HA := Lib.hid (And.intro hS hcw)
          clear hcl hcw hS hrnd
          go_upto_region 15 with (first
            | (go_at_call 109; (with_reducible refine (rright6_c e _).mono ?_); rintro ee w3 ⟨rfl, rfl⟩)
            | (go_at_call 109; (with_reducible refine (rright11_c e _).mono ?_); rintro ee w3 ⟨rfl, rfl⟩)
            | (go_at_call 109; (with_reducible refine (rright25_c e _).mono ?_); rintro ee w3 ⟨rfl, rfl⟩))
          go_quiet (fail)
          go_upto_region 17 with (first
            | (go_at_call 109; (with_reducible refine (rright2_c a _).mono ?_); rintro ee w3 ⟨rfl, rfl⟩)
            | (go_at_call 109; (with_reducible refine (rright13_c a _).mono ?_); rintro ee w3 ⟨rfl, rfl⟩)
            | (go_at_call 109; (with_reducible refine (rright22_c a _).mono ?_); rintro ee w3 ⟨rfl, rfl⟩))
          go_quiet (fail)
          go_upto_region 18 with fail
          refine wp_gen (fun W => (W.cell? ⟨lg, 1, none⟩ = some (.int .u32 b) ∧ W.cell? ⟨lg, 2, none⟩ = some (.int .u32 c) ∧ W.cell? ⟨lg, 3, none⟩ = some (.int .u32 d) ∧ W.cell? ⟨lg, 5, none⟩ = some (.int .u32 f) ∧ W.cell? ⟨lg, 6, none⟩ = some (.int .u32 g)) ∧ Below wr.heap.size wr W) ⟨⟨c1, c2, c3, c5, c6⟩, bel_call (below_drewN _ _) (below_drewN _ _)⟩ ?_
          clear c0 c1 c2 c3 c4 c5 c6 c7 ck cw
          rintro W18 ⟨⟨c1, c2, c3, c5, c6⟩, hb18⟩
          have HB18 := Lib.hid (show Below wr.heap.size wr W18.drew from bel_call hb18 (below_drewN W18 1))
          clear hb18
          have d1 : W18.drew.cell? ⟨lg, 1, none⟩ = some (.int .u32 b) := c1
          have d2 : W18.drew.cell? ⟨lg, 2, none⟩ = some (.int .u32 c) := c2
          have d3 : W18.drew.cell? ⟨lg, 3, none⟩ = some (.int .u32 d) := c3
          have d5 : W18.drew.cell? ⟨lg, 5, none⟩ = some (.int .u32 f) := c5
          have d6 : W18.drew.cell? ⟨lg, 6, none⟩ = some (.int .u32 g) := c6
          clear c1 c2 c3 c5 c6
          refine wp_region_still_tail 22 (by kernel_rfl) (by kernel_rfl) ?_
          change wpStill _ _ W18.drew (fun a' => wpList _ _ _ _ a' W18.drew) _ _
          generalize hW : W18.drew = W2 at *
          clear hW
          simp only [List.take_succ_cons, List.take_zero, List.drop_succ_cons, List.drop_zero]
          repeat still_step
          try refine wpStill_nil ?_
          go_wp2_with fail
          go_roundw
          case rel =>
            have hb2 := HB18.out
            have hbA := fun o => bel_alloc hb2 o
            refine ⟨t + 1, by omega, by go_num, ?_, HA.out.1.call (by omega) (hbA _), fun j hj => ?_, by have := (hbA (.cells #[] 0)).size; simp at this ⊢; omega⟩
            · rw [HRND.out, all32]
              refine LRow.new' W2 _ _ _ _ _ _ _ _ _ _ _ ?_ ?_ (by have := hb2.size; omega)
              · simp only [IntKind.wrap_u32]; omega
              · simp only [IntKind.wrap_u32]; omega
            · have := HA.out.2 j hj
              rw [(hbA _).cell (block_lt_of_cell this)]; exact this
          case measure => simp [intOf]; omega
        · obtain rfl : t = 64 := by omega
          have hbl := HBL.out
          have hcomp : comp hs ps = addW hs (rnds ps (St8.of hs) 64).l := rfl
          rw [hcomp] at hbl
          have hll : (rnds ps (St8.of hs) 64).l.length = 8 := rfl
          obtain ⟨lg, lcap, rfl, hlcap, hlgB, hcl⟩ := hl
          obtain ⟨ls, hls⟩ : ∃ ls, (rnds ps (St8.of hs) 64).l = ls := ⟨_, rfl⟩
          rw [hls] at hbl hll hcl
          clear hls hcomp hcw
          have HBL2 := Lib.hid hbl; have HLL := Lib.hid hll
          have HX := Lib.hid (show HSt B w zv T gt L (addTo hs ls 0) wr ∧ (∀ j, j < 8 → wr.cell? ⟨lg, j, none⟩ = some (.int .u32 (ls[j]?.getD 0))) from ⟨by simpa [addTo] using hS, hcl⟩)
          clear hbl hll hS hcl
          rw [show ((64 : Nat) : Int) = 64 from rfl]
          go_wp2_with fail
          go_loopw [16] (fun c wr => ∃ k : Nat, k ≤ 8 ∧ c = .int .i64 k ∧ HSt B w zv T gt L (addTo hs ls k) wr ∧ (∀ j, j < 8 → wr.cell? ⟨lg, j, none⟩ = some (.int .u32 (ls[j]?.getD 0))) ∧ B + 2 ≤ wr.heap.size) (fun c _ => 8 - (intOf c).toNat)
          case atStart => exact ⟨0, by omega, rfl, HX.out.1, HX.out.2, by omega⟩
          case round =>
            clear HX
            obtain ⟨k, hk, rfl, hS, hcl, hszr⟩ := hrel
            by_cases hlt8 : k < 8
            · have c1 := hcl k hlt8
              have c2 := hS.h.cell k (by rw [addTo_len _ _ HH8.out HLL.out _ hk]; exact hlt8)
              have f2 := hS.h.frozen k
              rw [addTo_get _ _ HH8.out HLL.out _ hlt8] at c2
              have hset := hS.set (by omega) (by omega) k (IntKind.u32.wrap (hs[k]?.getD 0 + ls[k]?.getD 0))
              rw [addTo_set _ _ HH8.out HLL.out _ hlt8, IntKind.wrap_u32] at hset
              have hcl2 : ∀ x j, j < 8 → (wr.setCell ⟨B + 1, k, none⟩ x).cell? ⟨lg, j, none⟩ = some (.int .u32 (ls[j]?.getD 0)) := fun x j hj => by rw [cell_set_block (by omega)]; exact hcl j hj
              generalize hs[k]?.getD 0 = x1 at *
              generalize ls[k]?.getD 0 = x2 at *
              have hk0 : (0 : Int) ≤ (k : Int) := by omega
              have hk8 : (k : Int) < 8 := by omega
              have HSET := Lib.hid hset; have HCL2 := Lib.hid hcl2
              have d1 : wr.drew.cell? ⟨lg, k, none⟩ = some (.int .u32 x2) := c1
              have d2 : wr.drew.cell? ⟨B + 1, k, none⟩ = some (.int .u32 x1) := c2
              have g2 : wr.drew.frozen? ⟨B + 1, k, none⟩ = false := f2
              clear hset hcl2 hS hcl c1 c2 f2
              go_wp2_with fail
              refine wp_region_still_tail 12 (by kernel_rfl) (by kernel_rfl) ?_
              change wpStill _ _ wr.drew (fun a' => wpList _ _ _ _ a' wr.drew) _ _
              simp only [List.take_succ_cons, List.take_zero, List.drop_succ_cons, List.drop_zero]
              repeat still_step
              try refine wpStill_nil ?_
              go_wp2_with fail
              go_roundw
              case rel => exact ⟨k + 1, by omega, by go_num, HSET.out.call (by simp; omega) (below_drewN _ 1), HCL2.out _, by simp; omega⟩
              case measure => simp [intOf]; omega
            · obtain rfl : k = 8 := by omega
              rw [addTo_all _ _ HH8.out HLL.out, ← HBL2.out] at hS
              have HS2 := Lib.hid hS
              clear hS hcl
              rw [show ((8 : Nat) : Int) = 8 from rfl]
              go_wp2_with fail
              go_roundw
              case rel => exact ⟨i + 1, q + 64, by have := HQ.out; omega, by omega, by go_num, HS2.out, by omega⟩
              case measure => simp [intOf]; omega
    · obtain rfl : q = N := by omega
      have hfin : digest (blk L i) = shaF xs := by
        rw [← HSHA.out, hq, Nat.mul_div_cancel_left _ (by omega)]
      have hdl := digest_len (blk L i)
      have hh8 : (blk L i).length = 8 := blk_len _ _
      have hwd : Wds (blk L i) := blk_wds _ _
      obtain ⟨hs, hhs⟩ : ∃ hs, blk L i = hs := ⟨_, rfl⟩
      rw [hhs] at hS hfin hdl hh8 hwd
      have HFIN := Lib.hid hfin; have HH8 := Lib.hid hh8
      have HX := Lib.hid hS
      clear hfin hh8 hS hhs hq
      have hD := HX.out.k.lt
      have hz0 : RowT 136 .u8 wr.heap.size (filP (digest hs) 0) (wr.alloc (.cells ((List.replicate 32 0).map (Value.int .u8)).toArray 136)) := by
        have : filP (digest hs) 0 = List.replicate 32 0 := by unfold filP; rw [hdl]; rfl
        rw [this]; exact RowT.new _ _ _ _
      have hX2 := HX.out.call (by omega) (bel_alloc (Below.refl _ wr) (.cells ((List.replicate 32 0).map (Value.int .u8)).toArray 136))
      have e1 := hX2.z; have e2 := hX2.h; have e4 := hX2.b
      clear hX2 HX
      go_upto_region 24 with fail
      refine wp_gen (fun U => RowV 136 B zv U ∧ RowT 144 .u32 (B + 1) hs U ∧ RowT 136 .u8 wr.heap.size (filP (digest hs) 0) U ∧ Below B w U) ⟨e1, e2, hz0, e4⟩ ?_
      clear e1 e2 hz0 e4
      have hBD : B + 2 ≤ wr.heap.size := hsz2
      generalize wr.heap.size = D at *
      rintro U ⟨e1, e2, e3, e4⟩
      go_wp2_with fail
      go_loopw [18] (fun v wr => ∃ t : Nat, t ≤ 32 ∧ v = .int .i64 t ∧ RowV 136 B zv wr ∧ RowT 144 .u32 (B + 1) hs wr ∧ RowT 136 .u8 D (filP (digest hs) t) wr ∧ Below B w wr) (fun v _ => 32 - (intOf v).toNat)
      case atStart => exact ⟨0, by omega, rfl, e1, e2, e3, e4⟩
      case round =>
        clear e1 e2 e3 e4
        obtain ⟨t, ht, rfl, e1, e2, e3, e4⟩ := hrel
        by_cases hlt : t < 32
        · have c1 := e3.cell t (by rw [filP_len _ _ (by omega)]; omega)
          have f1 := e3.frozen t
          have ch := e2.cell (t / 4) (by rw [HH8.out]; omega)
          have hb5 := hwd.at (t / 4) (by rw [HH8.out]; omega)
          obtain ⟨v5, hv5⟩ : ∃ v5, hs[t / 4]?.getD 0 / 2 ^ (24 - 8 * (t % 4)) % 256 = v5 := ⟨_, rfl⟩
          have g1 := e1.set_other (b := D) (o := t) (by omega) (.int .u8 v5)
          have g2 := e2.set_other (b := D) (o := t) (by omega) (.int .u8 v5)
          have g3 := e3.set t v5
          rw [filP_set _ _ (by omega) _ (by rw [digest_get _ _ hlt, hv5])] at g3
          have g4 := e4.setCell (p := ⟨D, t, none⟩) (show B ≤ D by omega) (.int .u8 v5)
          have HV5 := Lib.hid hv5
          clear hv5
          generalize (filP (digest hs) t)[t]?.getD 0 = z at *
          generalize hs[t / 4]?.getD 0 = x5 at *
          have i0 : (0 : Int) ≤ (t : Int) := by omega
          have j0 : (t : Int) < 32 := by omega
          have HG1 := Lib.hid g1; have HG2 := Lib.hid g2; have HG3 := Lib.hid g3; have HG4 := Lib.hid g4
          clear g1 g2 g3 g4 e1 e2 e3 e4
          go_wp2_with fail
          rw [HV5.out]
          go_roundw
          case rel => exact ⟨t + 1, by omega, by go_num, HG1.out, HG2.out, HG3.out, HG4.out⟩
          case measure => simp [intOf]; omega
        · obtain rfl : t = 32 := by omega
          have e3' : RowT 136 .u8 D (shaF xs) wr := by
            have := filP_all (digest hs)
            rw [hdl] at this
            rw [this, HFIN.out] at e3; exact e3
          have hsl2 := shaF_len xs
          obtain ⟨ws, hws⟩ : ∃ ws, shaF xs = ws := ⟨_, rfl⟩
          rw [hws] at e3' hsl2
          have HWS := Lib.hid hws
          have HI27 := Lib.hid (info136 (ws.map (Value.int .u8)).toArray.size (by simpa using hsl2))
          have HZ := Lib.hid (show zv.toArray.size = (ws.map (Value.int .u8)).toArray.size by simp [hzv, hsl2])
          have HO := Lib.hid (oneCell_map .u8 ws)
          have e3'' : wr.heap[D]? = some (.cells (ws.map (Value.int .u8)).toArray 136 (0, 0)) := e3'
          have HBF := Lib.hid (_root_.Go.below_setRow e4 (Nat.le_refl _) (ws.map (Value.int .u8)).toArray)
          clear e2 e3 e3' hws e4
          rw [show ((32 : Nat) : Int) = 32 from rfl]
          go_wp2_with (first | (refine wpList_load_row rfl 136 _ rfl _ rfl 136 _ _ _ e3'' u_hash rfl HI27.out ?_) | (refine wpList_store_row rfl 136 _ _ rfl _ rfl _ rfl 136 _ e1 HI27.out HZ.out HO.out ?_))
          exact bodyPost_ret (v := .agg (ws.map (Value.int .u8)).toArray) (results_cell_row rfl _ _ _ 136 _ _ _ rfl (setRow_heap wr _ _ _ 136 _ e1) u_hash rfl HI27.out) rfl ⟨by rw [HWS.out], HBF.out⟩
end Go.Proofs.YtfohemgfiidokaaGreatDoor
