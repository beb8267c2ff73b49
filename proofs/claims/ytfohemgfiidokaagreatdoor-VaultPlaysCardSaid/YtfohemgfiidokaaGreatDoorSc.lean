/- The schedule of a piece. -/
import Derived.Test.YtfohemgfiidokaaGreatDoorSb
import Derived.Test.YtfohemgfiidokaaGreatDoorRt
import Derived.Deep.DrawnRows
namespace Go.Proofs.YtfohemgfiidokaaGreatDoor
open Go.RowKit Go.Sort
attribute [local go_sem ↓] Go.wp_at_zero Go.wp_at_succ

/-- the words of which the first t are laid -/
def wl (p : List Int) (t : Nat) : List Int := sch p t ++ List.replicate (64 - t) 0
theorem wl_len (p : List Int) (t : Nat) (h : t ≤ 64) : (wl p t).length = 64 := by simp [wl, sch_len]; omega
theorem wl_get (p : List Int) (t j : Nat) (h : j < t) : (wl p t)[j]?.getD 0 = (sch p t)[j]?.getD 0 := by
  unfold wl; rw [List.getElem?_append_left (by rw [sch_len]; omega)]
theorem wl_zero (p : List Int) (t : Nat) (h : t < 64) : (wl p t)[t]?.getD 0 = 0 := by
  unfold wl
  rw [List.getElem?_append_right (by rw [sch_len]; omega), sch_len, Nat.sub_self, List.getElem?_replicate, if_pos (by omega)]; rfl
theorem wl_set (p : List Int) (t : Nat) (h : t < 64) : (wl p t).set t (if t < 16 then be4 p t else nextW (sch p t) t) = wl p (t + 1) := by
  unfold wl
  rw [List.set_append, if_neg (by rw [sch_len]; omega), sch_len, Nat.sub_self, show 64 - t = (64 - (t + 1)) + 1 by omega, List.replicate_succ, List.set_cons_zero]
  simp [sch]
theorem wl_all (p : List Int) : wl p 64 = sch p 64 := by simp [wl]
/-- a word of which so many bytes are there -/
def acc4 (p : List Int) (t : Nat) : Nat → Int
  | 0 => 0
  | k + 1 => acc4 p t k * 256 + p[4 * t + k]?.getD 0
theorem acc4_bd (p : List Int) (hp : Bytes p) (t : Nat) (h : 4 * t + 3 < p.length) : ∀ k, k ≤ 4 → 0 ≤ acc4 p t k ∧ acc4 p t k < 256 ^ k
  | 0, _ => by simp [acc4]
  | k + 1, hk => by
    have ih := acc4_bd p hp t h k (by omega)
    have hb := hp.at (4 * t + k) (by omega)
    simp only [acc4]
    rw [Int.pow_succ]
    omega
theorem acc4_four (p : List Int) (t : Nat) : acc4 p t 4 = be4 p t := by simp only [acc4, be4, Nat.add_zero]; omega
theorem or_shift8 (a b : Int) (h0 : 0 ≤ a) (h1 : a < 16777216) (h2 : 0 ≤ b) (h3 : b ≤ 255) : bits .or .u32 (a * 256) b = a * 256 + b := by
  obtain ⟨n, rfl⟩ := Int.eq_ofNat_of_zero_le h0
  obtain ⟨m, rfl⟩ := Int.eq_ofNat_of_zero_le h2
  rw [or_bv, BitVec.toNat_or, show ((n : Int) * 256) = ((n * 256 : Nat) : Int) by omega, BitVec.ofInt_natCast, BitVec.ofInt_natCast, BitVec.toNat_ofNat, BitVec.toNat_ofNat, Nat.mod_eq_of_lt (by omega), Nat.mod_eq_of_lt (by omega)]
  have := Nat.two_pow_add_eq_or_of_lt (i := 8) (b := m) (by omega) n
  rw [show n * 256 = 2 ^ 8 * n by omega, ← this]
  omega
theorem info161 (n : Nat) (h : n = 64) : (Tryz.prog.info? 161).map (·.size) = some n := by rw [h]; kernel_rfl

theorem al64 : Tryz.prog.arrayLen 147 = 64 := by simp [Program.arrayLen, Tryz.underlying147]
/-- a part of an array of 64 bytes -/
theorem run_slice64 (b o : Nat) (l h : Int) (W : World) (h0 : 0 ≤ l) (h1 : l ≤ h) (h2 : h ≤ 64) (h3 : l < 64) :
    (Instr.sliceAt 147 (.pointer (some ⟨b, o, none⟩)) (some (.int .i64 l)) (some (.int .i64 h)) none).run Tryz.prog W = .ok (.slice (some ⟨b, o + l.toNat, none⟩) (h.toNat - l.toNat) (64 - l.toNat)) W := by
  rw [run_sliceAt_array_lh W 147 ⟨b, o, none⟩ (by simp [Program.arrayLen, Program.elem, Tryz.underlying147]) .i64 .i64 l h h0 h1 (by rw [al64]; omega)]
  have he : Tryz.prog.elem 147 = 5 := by simp [Program.elem, Tryz.underlying147]
  rw [he, Tryz.sizeOf5 W]
  simp only [Result.andThen_ok, slicedAt, al64, Nat.mul_one]
  rw [if_neg (by omega), Addr.add_lit]
theorem run_slice64_from (b o : Nat) (κ : IntKind) (l : Int) (W : World) (h0 : 0 ≤ l) (h3 : l < 64) :
    (Instr.sliceAt 147 (.pointer (some ⟨b, o, none⟩)) (some (.int κ l)) none none).run Tryz.prog W = .ok (.slice (some ⟨b, o + l.toNat, none⟩) (64 - l.toNat) (64 - l.toNat)) W := by
  rw [run_sliceAt_array_l W 147 ⟨b, o, none⟩ (by simp [Program.arrayLen, Program.elem, Tryz.underlying147]) κ l h0 (by rw [al64]; omega)]
  have he : Tryz.prog.elem 147 = 5 := by simp [Program.elem, Tryz.underlying147]
  rw [he, Tryz.sizeOf5 W]
  simp only [Result.andThen_ok, slicedAt, al64, Nat.mul_one]
  rw [if_neg (by omega), Addr.add_lit]

set_option maxRecDepth 100000 in
set_option maxHeartbeats 4000000 in
theorem schedule_c (b o : Nat) (ps : List Int) (w : World) (hl : ps.length = 64) (hp : Bytes ps) (hr : w.rangeAt b o (ps.map (Value.int .u8))) (hb : b < w.heap.size) :
    Calls Tryz.prog 112 #[.pointer (some ⟨b, o, none⟩)] w fun e w' => e = .returned (.agg ((sch ps 64).map (Value.int .u32)).toArray) ∧ Below w.heap.size w w' := by
  have hcell : ∀ j, j < 64 → w.cell? ⟨b, o + j, none⟩ = some (.int .u8 (ps[j]?.getD 0)) := fun j hj => by
    refine hr j _ ?_
    rw [List.getElem?_map, List.getElem?_eq_getElem (by omega)]; rfl
  have HC := Lib.hid hcell
  have HL := Lib.hid hl
  clear hr hcell hl
  have h0 : RowT 161 .u32 w.heap.size (wl ps 0) (w.alloc (.cells ((wl ps 0).map (Value.int .u32)).toArray 161)) := RowT.new _ _ _ _
  have hb0 : Below w.heap.size w (w.alloc (.cells ((wl ps 0).map (Value.int .u32)).toArray 161)) := bel_alloc (Below.refl _ _) _
  go_enter Tryz.func112, Tryz.ntmps112
  go_wp2_with fail
  refine wp_gen (fun W => RowT 161 .u32 w.heap.size (wl ps 0) W ∧ Below w.heap.size w W) ⟨h0, hb0⟩ ?_
  clear h0 hb0
  rintro W ⟨h0, hb0⟩
  go_loopw [8] (fun i wr => ∃ t : Nat, t ≤ 64 ∧ i = .int .i64 t ∧ RowT 161 .u32 w.heap.size (wl ps t) wr ∧ Below w.heap.size w wr) (fun i _ => 64 - (intOf i).toNat)
  case atStart => exact ⟨0, by omega, rfl, h0, hb0⟩
  case round =>
    obtain ⟨t, ht, rfl, hR, hB⟩ := hrel
    clear h0 hb0
    have HB := hB.size
    by_cases hlt : t < 64
    case neg =>
      obtain rfl : t = 64 := by omega
      rw [wl_all] at hR
      obtain ⟨W64, hW64⟩ : ∃ W64, sch ps 64 = W64 := ⟨_, rfl⟩
      have hWl : W64.length = 64 := by rw [← hW64, sch_len]
      rw [hW64] at hR
      have HW := Lib.hid hW64
      clear hW64
      have hR' : wr.heap[w.heap.size]? = some (.cells (W64.map (Value.int .u32)).toArray 161 (0, 0)) := hR
      have hi := info161 (W64.map (Value.int .u32)).toArray.size (by simp [hWl])
      have HI := Lib.hid hi
      have HZ := Lib.hid (rfl : (W64.map (Value.int .u32)).toArray.size = (W64.map (Value.int .u32)).toArray.size)
      have HO := Lib.hid (oneCell_map .u32 (W64))
      clear hi
      clear hWl
      go_wp2_with (first | (refine wpList_load_row rfl 161 _ rfl _ rfl 161 _ _ _ hR' Tryz.underlying161 rfl HI.out ?_) | (refine wpList_store_row rfl 161 _ _ rfl _ rfl _ rfl 161 _ hR' HI.out HZ.out HO.out ?_))
      exact bodyPost_ret (v := .agg (W64.map (Value.int .u32)).toArray) (results_cell_row rfl _ _ _ 161 _ _ _ rfl (setRow_heap wr _ _ _ 161 _ hR') Tryz.underlying161 rfl HI.out) rfl ⟨by rw [HW.out], below_setRow hB (by omega) hR.lt _⟩
    by_cases h16 : t < 16
    · have hsl : ∀ W, (Instr.sliceAt 147 (.pointer (some ⟨b, o, none⟩)) (some (.int .i64 (4 * (t : Int)))) (some (.int .i64 (4 * (t : Int) + 4))) none).run Tryz.prog W = .ok (.slice (some ⟨b, o + 4 * t, none⟩) 4 (64 - 4 * t)) W := fun W => by
        rw [run_slice64 b o _ _ W (by omega) (by omega) (by omega) (by omega)]
        have e1 : (4 * (t : Int)).toNat = 4 * t := by omega
        have e2 : (4 * (t : Int) + 4).toNat - (4 * (t : Int)).toNat = 4 := by omega
        rw [e2, e1]
      have hz := wl_zero ps t hlt
      have hR0 : RowT 161 .u32 w.heap.size ((wl ps t).set t (acc4 ps t 0)) wr := by
        have e : (wl ps t).set t (acc4 ps t 0) = wl ps t := by
          have hl := wl_len ps t ht
          rw [show acc4 ps t 0 = (wl ps t)[t]?.getD 0 by rw [hz]; rfl, List.getElem?_eq_getElem (by omega)]
          simp
        rw [e]; exact hR
      clear hz hR
      go_upto_region 6 with fail
      go_loopw [22] (fun i wr => ∃ k : Nat, k ≤ 4 ∧ i = .int .i64 k ∧ RowT 161 .u32 w.heap.size ((wl ps t).set t (acc4 ps t k)) wr ∧ Below w.heap.size w wr) (fun i _ => 4 - (intOf i).toNat)
      case atStart => exact ⟨0, by omega, rfl, hR0, hB⟩
      case round =>
        obtain ⟨k, hk, rfl, hK, hB2⟩ := hrel
        clear hR0 hB HB
        have HB := hB2.size
        by_cases hk4 : k < 4
        · have hcell := HC.out (4 * t + k) (by omega)
          rw [show o + (4 * t + k) = o + 4 * t + k by omega, ← hB2.cell hb] at hcell
          have hbd := hp.at (4 * t + k) (by rw [HL.out]; omega)
          have hab := acc4_bd ps hp t (by rw [HL.out]; omega) k (by omega)
          have hpw : (256 : Int) ^ k ≤ 16777216 := by
            rcases (show k = 0 ∨ k = 1 ∨ k = 2 ∨ k = 3 by omega) with rfl | rfl | rfl | rfl <;> decide
          have hst : acc4 ps t (k + 1) = acc4 ps t k * 256 + ps[4 * t + k]?.getD 0 := rfl
          have hor := or_shift8 (acc4 ps t k) (ps[4 * t + k]?.getD 0) (by omega) (by omega) hbd.1 hbd.2
          rw [← hst] at hor
          have c1 : wr.cell? ⟨w.heap.size, t, none⟩ = some (.int .u32 (acc4 ps t k)) := by
            have := hK.cell t (by rw [List.length_set, wl_len ps t ht]; exact hlt)
            rw [this, List.getElem?_set_self (by rw [wl_len ps t ht]; exact hlt)]; rfl
          have f1 := hK.frozen t
          have hset := hK.set t (acc4 ps t (k + 1))
          rw [List.set_set] at hset
          have hB3 := hB2.setCell (p := ⟨w.heap.size, t, none⟩) (Nat.le_refl _) (.int .u32 (acc4 ps t (k + 1)))
          have g1 : 0 ≤ acc4 ps t k ∧ acc4 ps t k < 16777216 := by omega
          have g2 : IntKind.u32.wrap (acc4 ps t k * 256) = acc4 ps t k * 256 := by rw [IntKind.wrap_u32]; omega
          have g3 : IntKind.u32.wrap (ps[4 * t + k]?.getD 0) = ps[4 * t + k]?.getD 0 := by rw [IntKind.wrap_u32]; omega
          generalize ps[4 * t + k]?.getD 0 = pb at *
          generalize acc4 ps t k = av at *
          obtain ⟨an, han⟩ : ∃ an, acc4 ps t (k + 1) = an := ⟨_, rfl⟩
          rw [han] at hset hB3 hor
          have HAN := Lib.hid han
          have HS := Lib.hid hset; have HB3 := Lib.hid hB3; have HO := Lib.hid hor
          clear hset hB3 hst hab hpw hK hsl han hor
          go_wp2_with fail
          exact ⟨⟨k + 1, by omega, by go_num, by rw [HAN.out, HO.out]; exact HS.out, by rw [HO.out]; exact HB3.out⟩, by simp [intOf]; omega⟩
        · obtain rfl : k = 4 := by omega
          rw [acc4_four] at hK
          have hst := wl_set ps t hlt
          rw [if_pos h16] at hst
          rw [hst] at hK
          clear hst hsl
          go_wp2_with fail
          exact ⟨⟨t + 1, by omega, by go_num, hK, hB2⟩, by simp [intOf]; omega⟩
    · have hw := sch_wds ps hp HL.out t
      have hg16 := hw.at (t - 16) (by rw [sch_len]; omega)
      have hg15 := hw.at (t - 15) (by rw [sch_len]; omega)
      have hg7 := hw.at (t - 7) (by rw [sch_len]; omega)
      have hg2 := hw.at (t - 2) (by rw [sch_len]; omega)
      have hst := wl_set ps t hlt
      rw [if_neg h16] at hst
      have hc : ∀ j, j < t → wr.cell? ⟨w.heap.size, j, none⟩ = some (.int .u32 ((sch ps t)[j]?.getD 0)) := fun j hj => by
        rw [hR.cell j (by rw [wl_len ps t ht]; omega), wl_get ps t j hj]
      have c16 := hc (t - 16) (by omega)
      have c15 := hc (t - 15) (by omega)
      have c7 := hc (t - 7) (by omega)
      have c2 := hc (t - 2) (by omega)
      have ct := hR.cell t (by rw [wl_len ps t ht]; omega)
      have ft := hR.frozen t
      have hset : ∀ W : World, W.heap = wr.heap → RowT 161 .u32 w.heap.size (wl ps (t + 1)) (W.setCell ⟨w.heap.size, t, none⟩ (.int .u32 (nextW (sch ps t) t))) := fun W hW => by
        have h1 : RowT 161 .u32 w.heap.size (wl ps t) W := by unfold RowT; rw [hW]; exact hR
        rw [← hst]; exact h1.set t _
      have hnx : nextW (sch ps t) t = IntKind.u32.wrap (IntKind.u32.wrap (IntKind.u32.wrap ((sch ps t)[t - 16]?.getD 0 + (sch ps t)[t - 7]?.getD 0) + sml0 ((sch ps t)[t - 15]?.getD 0)) + sml1 ((sch ps t)[t - 2]?.getD 0)) := rfl
      generalize (sch ps t)[t - 16]?.getD 0 = x16 at *
      generalize (sch ps t)[t - 15]?.getD 0 = x15 at *
      generalize (sch ps t)[t - 7]?.getD 0 = x7 at *
      generalize (sch ps t)[t - 2]?.getD 0 = x2 at *
      have e16 : IntKind.i64.wrap ((t : Int) - 16) = ((t - 16 : Nat) : Int) := by rw [IntKind.wrap_i64]; omega
      have e15 : IntKind.i64.wrap ((t : Int) - 15) = ((t - 15 : Nat) : Int) := by rw [IntKind.wrap_i64]; omega
      have e7 : IntKind.i64.wrap ((t : Int) - 7) = ((t - 7 : Nat) : Int) := by rw [IntKind.wrap_i64]; omega
      have e2 : IntKind.i64.wrap ((t : Int) - 2) = ((t - 2 : Nat) : Int) := by rw [IntKind.wrap_i64]; omega
      have HS := Lib.hid hset; have HN := Lib.hid hnx
      clear hset hnx hc hst hw hR
      go_wp2_with fail
      go_quiet (fail)
      go_wp2_with fail
      have d16 : (wr.drewN nq).cell? ⟨w.heap.size, t - 16, none⟩ = some (.int .u32 x16) := c16
      have d7 : (wr.drewN nq).cell? ⟨w.heap.size, t - 7, none⟩ = some (.int .u32 x7) := c7
      have dt : (wr.drewN nq).cell? ⟨w.heap.size, t, none⟩ = some (.int .u32 ((wl ps t)[t]?.getD 0)) := ct
      have ff : (wr.drewN nq).frozen? ⟨w.heap.size, t, none⟩ = false := ft
      have hBq : Below w.heap.size w (wr.drewN nq).drew := bel_call (bel_call hB (below_drewN wr nq)) (below_drewN _ 1)
      have hH : (wr.drewN nq).drew.heap = wr.heap := rfl
      have HH := Lib.hid hH
      clear hH c16 c15 c7 c2 ct ft hB
      generalize (wl ps t)[t]?.getD 0 = z at *
      generalize wr.drewN nq = W2 at *
      have n16 : t ≠ t - 16 := by omega
      have n7 : t ≠ t - 7 := by omega
      have i16 : (0 : Int) ≤ ((t - 16 : Nat) : Int) := by omega
      have j16 : ((t - 16 : Nat) : Int) < 64 := by omega
      have i7 : (0 : Int) ≤ ((t - 7 : Nat) : Int) := by omega
      have j7 : ((t - 7 : Nat) : Int) < 64 := by omega
      have i0 : (0 : Int) ≤ (t : Int) := by omega
      have j0 : (t : Int) < 64 := by omega
      go_region_held3 (fun w' => w'.cell? ⟨w.heap.size, t - 16, none⟩ = some (.int .u32 x16) ∧ w'.cell? ⟨w.heap.size, t - 7, none⟩ = some (.int .u32 x7)) (first | exact ⟨cell_set_drew n16 d16, cell_set_drew n7 d7⟩ | go_keep)
        (first | (go_at_call 113; (with_reducible refine (right7_c x15 _).mono ?_); rintro e w3 ⟨rfl, rfl⟩) | (go_at_call 113; (with_reducible refine (right18_c x15 _).mono ?_); rintro e w3 ⟨rfl, rfl⟩) | (go_at_call 113; (with_reducible refine (right17_c x2 _).mono ?_); rintro e w3 ⟨rfl, rfl⟩) | (go_at_call 113; (with_reducible refine (right19_c x2 _).mono ?_); rintro e w3 ⟨rfl, rfl⟩))
      go_wp2_with fail
      have e : IntKind.u32.wrap (IntKind.u32.wrap (IntKind.u32.wrap (x16 + x7) + bits .xor .u32 (bits .xor .u32 (rr x15 7) (rr x15 18)) (x15 / 8)) + bits .xor .u32 (bits .xor .u32 (rr x2 17) (rr x2 19)) (x2 / 1024)) = nextW (sch ps t) t := HN.out.symm
      simp only [IntKind.wrap_u32] at e
      rw [e]
      have hR2 : RowT 161 .u32 w.heap.size (wl ps (t + 1)) (W2.setCell ⟨w.heap.size, t, none⟩ (.int .u32 (nextW (sch ps t) t))).drew := HS.out W2 HH.out
      have hB3 : Below w.heap.size w (W2.setCell ⟨w.heap.size, t, none⟩ (.int .u32 (nextW (sch ps t) t))).drew := hBq.setCell (p := ⟨w.heap.size, t, none⟩) (Nat.le_refl _) _
      exact ⟨⟨t + 1, by omega, by go_num, hR2, hB3⟩, by simp [intOf]; omega⟩
end Go.Proofs.YtfohemgfiidokaaGreatDoor
