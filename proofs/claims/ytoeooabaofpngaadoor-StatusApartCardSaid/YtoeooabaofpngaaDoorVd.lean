/- An entry is put on a page. -/
import Derived.Test.YtoeooabaofpngaaDoorVc
import Derived.WalkSmall
import Derived.Lib.ItoaMem
namespace Go.Proofs.YtoeooabaofpngaaDoor
open Go.RowKit Go.Sort
attribute [local go_sem ↓] Go.wp_at_zero Go.wp_at_succ

/-- the table of powers of ten stands -/
def PTab (w : World) : Prop := Lib.TabIs Tryd.prog w "internal/strconv.uint64pow10" .u64 Lib.pow10Tab
theorem ptab_g : Tryd.prog.globalNamed "internal/strconv.uint64pow10" = some 1 := by kernel_rfl
theorem PTab.lt {w : World} (h : PTab w) : 1 < w.heap.size := by
  have := h.cell ptab_g 0 (by decide)
  exact block_lt_of_cell this
theorem PTab.call {w w' : World} (h : PTab w) (hb : Below w.heap.size w w') : PTab w' := var?_below hb ptab_g h.lt h
theorem itoa_c (n : Int) (w : World) (h0 : -9223372036854775808 ≤ n) (h1 : n ≤ 9223372036854775807) (hp : PTab w) : Calls Tryd.prog 27 #[.int .i64 n] w fun e w' => e = .returned (.string (strOfNums (itoI n))) ∧ Below w.heap.size w w' := by
  refine (Tryd.strconv_Itoa n h0 h1 w hp).mono ?_
  rintro e w' ⟨rfl, k, os, rfl⟩
  exact ⟨by rw [itoa_str], ⟨rfl, rfl, rfl, by simp [grow], fun j hj => by simp [grow, Array.getElem?_append_left, hj]⟩⟩
/-- an entry's cells -/
def enV (x : En) : List Value := .int .i64 x.h :: x.t.map (Value.int .u8)
theorem strCells_nums (l : List Int) (h : Bytes l) : Lib.strCells (strOfNums l) = u8s l := by
  have := nums_str l h
  unfold numsOf at this
  unfold Lib.strCells u8s
  rw [← this]
  simp only [List.map_map]
  rw [this]
  rfl
theorem range_call' {w w' : World} {g o : Nat} {cs : List Value} (h : w.rangeAt g o cs) (hg : g < w.heap.size) (hb : Below w.heap.size w w') : w'.rangeAt g o cs := fun j v hv => by
  rw [hb.cell (p := ⟨g, o + j, none⟩) hg]; exact h j v hv
theorem isb_keep {T e : TypeId} {B b : Nat} {bs : List Value} {w w' : World} (h : Lib.IsBuilder T e B b bs w) (hb : Below w.heap.size w w') : Lib.IsBuilder T e B b bs w' := by
  have : ∀ p, Lib.BuilderAt T e B b p bs w → Lib.BuilderAt T e B b p bs w' := by
    rintro p ⟨h1, v, h2, h3, h4⟩
    have hlt : b < w.heap.size := by
      rcases Nat.lt_or_ge b w.heap.size with h' | h'
      · exact h'
      · simp [Array.getElem?_eq_none h'] at h2
    exact ⟨h1, v, by rw [hb.block b hlt]; exact h2, ownsRow_keep h3 hb, h4⟩
  rcases h with h | h
  · exact .inl (this _ h)
  · exact .inr (this _ h)
set_option maxRecDepth 100000 in
set_option maxHeartbeats 4000000 in
theorem entry_c (x : En) (o : x.Ok) (B b : Nat) (bs : List Int) (w : World) (hp : PTab w) (hbu : Lib.IsBuilder 40 5 B b (u8s bs) w) (hl : bs.length ≤ 1000000) (hBw : B ≤ w.heap.size) :
    Calls Tryd.prog 15 #[.pointer (some ⟨b, 0, none⟩), .agg (enV x).toArray] w fun e w' => e = .returned (.tuple #[]) ∧ Lib.IsBuilder 40 5 B b (u8s (bs ++ enT x)) w' ∧ Below B w w' := by
  have kt : ∀ W, Calls Tryd.prog 26 #[.agg (x.t.map (Value.int .u8)).toArray] W fun e w' => e = .returned (.string (strOfNums (hexI x.t.reverse))) ∧ Below W.heap.size W w' := fun W => turned_c x.t W o.l o.b
  have ki : ∀ W, PTab W → Calls Tryd.prog 27 #[.int .i64 x.h] W fun e w' => e = .returned (.string (strOfNums (itoI x.h))) ∧ Below W.heap.size W w' := fun W h => itoa_c x.h W o.lo o.hi h
  have hr : RowV 29 w.heap.size (enV x) (w.alloc (.cells (enV x).toArray 29)) := RowV.new _ _ _
  have c0 := hr.cell 0
  have cr : (w.alloc (.cells (enV x).toArray 29)).rangeAt w.heap.size 1 (x.t.map (Value.int .u8)) := fun j v hv => by
    rw [hr.cell, Nat.add_comm]
    exact hv
  simp only [enV, List.getElem?_cons_zero] at c0
  rw [show (Value.int IntKind.i64 x.h :: List.map (Value.int IntKind.u8) x.t) = enV x from rfl] at c0
  have hB1 : Below w.heap.size w (w.alloc (.cells (enV x).toArray 29)) := bel_alloc (Below.refl _ _) _
  obtain ⟨ev, hev⟩ : ∃ ev, (enV x).toArray = ev := ⟨_, rfl⟩
  rw [hev] at c0 cr hB1 ⊢
  have hu1 := isb_keep hbu hB1
  have hp1 := hp.call hB1
  have hiH := info27 (x.t.map (Value.int .u8)).length (by simp [o.l])
  have HX := Lib.hid (show enT x = hexI x.t.reverse ++ ([58] ++ (itoI x.h ++ [58])) from rfl)
  have b1 : Bytes (hexI x.t.reverse) := hexI_bytes _ (fun b hb => o.b b (by simpa using hb))
  have l1 : (hexI x.t.reverse).length = 64 := by simp [hexI_len, o.l]
  have b2 := itoI_bytes x.h
  have l2 := itoI_len x.h o.lo o.hi
  generalize hexI x.t.reverse = s1 at *
  generalize itoI x.h = s2 at *
  generalize x.t.map (Value.int .u8) = tv at *
  generalize x.h = hh at *
  clear hr hev hp hbu o
  have hul := Tryd.underlying27
  go_enter Tryd.func15, Tryd.ntmps15
  go_upto_region 1 with fail
  refine wp_gen (fun W => W.rangeAt w.heap.size 1 tv ∧ W.cell? ⟨w.heap.size, 0, none⟩ = some (.int .i64 hh) ∧ PTab W ∧ Lib.IsBuilder 40 5 B b (u8s bs) W ∧ Below w.heap.size w W ∧ w.heap.size < W.heap.size) ⟨cr, c0, hp1, hu1, hB1, by simp⟩ ?_
  clear cr c0 hp1 hu1 hB1
  rintro W ⟨cr, c0, hp1, hu1, hB1, hlt⟩
  have hD : Below W.heap.size W W.drew := below_drewN W 1
  have HK := Lib.hid (fun U (h : Below W.heap.size W U) => (And.intro (range_call' cr hlt h) (by rw [h.cell hlt]; exact c0) : U.rangeAt w.heap.size 1 tv ∧ U.cell? ⟨w.heap.size, 0, none⟩ = some (.int .i64 hh)))
  have HP := Lib.hid (fun U (h : Below W.heap.size W U) => hp1.call h)
  have HU := Lib.hid (And.intro hu1 hB1)
  clear hp1 hu1 hB1
  go_region_held3 (fun w' => w'.rangeAt w.heap.size 1 tv ∧ w'.cell? ⟨w.heap.size, 0, none⟩ = some (.int .i64 hh)) (first | exact HK.out _ (bel_call hD hb2) | exact HK.out _ (bel_call hD hb3) | exact HK.out _ (bel_call (bel_call hD hb2) hb3) | exact HK.out _ (bel_call (bel_call hD hb3) hb2) | exact HK.out _ (bel_alloc (bel_call (bel_call hD hb2) hb3) _) | exact HK.out _ (bel_alloc (bel_call (bel_call hD hb3) hb2) _) | go_keep)
    (first
      | (go_at_call 26; (with_reducible refine (kt _).mono ?_); rintro e w2 ⟨rfl, hb2⟩)
      | (go_at_call 27; (with_reducible refine (ki _ (HP.out _ hD)).mono ?_); rintro e w3 ⟨rfl, hb3⟩)
      | (go_at_call 27; (with_reducible refine (ki _ (HP.out _ (bel_call hD hb2))).mono ?_); rintro e w3 ⟨rfl, hb3⟩))
  have hB3 : Below W.heap.size W w3 := bel_call (bel_call hD hb2) hb3
  have hu3 := isb_keep HU.out.1 (bel_alloc hB3 (.cells #[.string (strOfNums s1), .string (strOfNums s2)] 9))
  have hBw3 : Below w.heap.size w (w3.alloc (.cells #[.string (strOfNums s1), .string (strOfNums s2)] 9)) := bel_call HU.out.2 (bel_alloc hB3 _)
  obtain ⟨sq, hsq0, hsq1⟩ : ∃ sq : Nat → List Int, sq 0 = s1 ∧ sq 1 = s2 := ⟨fun k => if k = 0 then s1 else s2, rfl, rfl⟩
  obtain ⟨pt, hpt0, hpt⟩ : ∃ pt : Nat → List Int, pt 0 = [] ∧ ∀ k, pt (k + 1) = pt k ++ sq k ++ [58] := ⟨fun k => k.rec [] (fun k l => l ++ sq k ++ [58]), rfl, fun _ => rfl⟩
  have hlen : ∀ k, k ≤ 2 → (pt k).length ≤ 200 ∧ (k < 2 → (sq k).length ≤ 64 ∧ Bytes (sq k)) := by
    intro k hk
    rcases (show k = 0 ∨ k = 1 ∨ k = 2 by omega) with rfl | rfl | rfl
    · exact ⟨by simp [hpt0], fun _ => ⟨by rw [hsq0]; omega, by rw [hsq0]; exact b1⟩⟩
    · exact ⟨by rw [hpt 0, hpt0, hsq0]; simp; omega, fun _ => ⟨by rw [hsq1]; omega, by rw [hsq1]; exact b2⟩⟩
    · exact ⟨by rw [hpt 1, hpt 0, hpt0, hsq0, hsq1]; simp; omega, fun h => by omega⟩
  have HPT := Lib.hid (And.intro hpt hlen)
  have HFIN := Lib.hid (show bs ++ enT x = bs ++ pt 2 by rw [HX.out, hpt 1, hpt 0, hpt0, hsq0, hsq1]; simp)
  have HST := Lib.hid (show Lib.IsBuilder 40 5 B b (u8s (bs ++ pt 0)) (w3.alloc (.cells #[.string (strOfNums s1), .string (strOfNums s2)] 9)) ∧ (w3.alloc (.cells #[.string (strOfNums s1), .string (strOfNums s2)] 9)).heap[w3.heap.size]? = some (.cells #[.string (strOfNums (sq 0)), .string (strOfNums (sq 1))] 9 (0, 0)) ∧ Below B w (w3.alloc (.cells #[.string (strOfNums s1), .string (strOfNums s2)] 9)) from ⟨by rw [hpt0, List.append_nil]; exact hu3, by rw [hsq0, hsq1]; exact heap_alloc_new _ _, hBw3.mono hBw⟩)
  clear hB3 hu3 hBw3 hsq0 hsq1 hpt0 hpt hlen HX HU HP HK hb2 hb3 kt ki cr c0
  go_wp2_with fail
  go_loopw [14] (fun c wr => ∃ k : Nat, k ≤ 2 ∧ c = .int .i64 k ∧ Lib.IsBuilder 40 5 B b (u8s (bs ++ pt k)) wr ∧ wr.heap[w3.heap.size]? = some (.cells #[.string (strOfNums (sq 0)), .string (strOfNums (sq 1))] 9 (0, 0)) ∧ Below B w wr) (fun c _ => 2 - (intOf c).toNat)
  case atStart => exact ⟨0, by omega, rfl, HST.out.1, HST.out.2.1, HST.out.2.2⟩
  case round =>
    clear HST
    obtain ⟨k, hk, rfl, hu, hcl, hB⟩ := hrel
    obtain ⟨hl1, hl2⟩ := HPT.out.2 k hk
    by_cases hlt2 : k < 2
    · obtain ⟨hl3, hbs⟩ := hl2 hlt2
      have hBs := hB.size
      have hsz : (strOfNums (sq k)).size ≤ 64 := by rw [strOfNums_size]; exact hl3
      have hbl : (u8s (bs ++ pt k)).length ≤ 1000200 := by simp [u8s]; omega
      have kw := pwritestr_c B b (u8s (bs ++ pt k)) (strOfNums (sq k)) wr hu (by omega) (by omega)
      rw [strCells_nums _ hbs, u8s_append] at kw
      have hbl2 : (u8s (bs ++ pt k ++ sq k)).length ≤ 1000300 := by simp [u8s]; omega
      have hfin : u8s (bs ++ pt k ++ sq k) ++ [.int .u8 58] = u8s (bs ++ pt (k + 1)) := by rw [HPT.out.1 k, u8s_snoc, List.append_assoc, List.append_assoc, List.append_assoc]
      have ck : wr.cell? ⟨w3.heap.size, k, none⟩ = some (.string (strOfNums (sq k))) := by
        rcases (show k = 0 ∨ k = 1 by omega) with rfl | rfl
        · simp [World.cell?, hcl]
        · simp [World.cell?, hcl]
      have HCL := Lib.hid hcl; have HF := Lib.hid hfin
      have hk2 : (k : Int) < 2 := by omega
      generalize strOfNums (sq k) = str at *
      generalize u8s (bs ++ pt k ++ sq k) = bl2 at *
      clear hl1 hl2 hl3 hbs hcl hfin hu hbl
      go_wp2_with (first
        | (go_at_call 28; (with_reducible refine kw.mono ?_); rintro e w5 ⟨rfl, hu5, hb5, hk5⟩; have hB5 := hB.trans hb5; have hBs5 := hB5.size)
        | (go_at_call 29; (with_reducible refine (pwritebyte_c B b bl2 58 w5 hu5 (by omega) (by omega)).mono ?_); rintro e w6 ⟨rfl, hu6, hb6, hk6⟩; have hB6 := hB5.trans hb6))
      rw [HF.out] at hu6
      go_roundw
      case rel => exact ⟨k + 1, by omega, by go_num, hu6, (hk5.trans hk6) _ _ _ _ HCL.out (by decide) (by decide), hB6⟩
      case measure => simp [intOf]; omega
    · obtain rfl : k = 2 := by omega
      rw [← HFIN.out] at hu
      have HU := Lib.hid hu
      clear hu hcl
      rw [show ((2 : Nat) : Int) = 2 from rfl]
      go_wp2_with fail
      go_end0
      exact ⟨rfl, HU.out, hB⟩
end Go.Proofs.YtoeooabaofpngaaDoor
