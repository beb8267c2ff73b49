/- Bytes as letters: Hex, the reference's letter and Hex. -/
import Derived.Test.YtoeooabaofpngaaDoorUb
import Derived.Deep.AppendLies
import Derived.Deep.DrawnRows
namespace Go.Proofs.YtoeooabaofpngaaDoor
open Go.RowKit Go.Sort
attribute [local go_sem ↓] Go.wp_at_zero Go.wp_at_succ
theorem let_ix (y : Int) (h0 : 0 ≤ y) (h1 : y ≤ 15) : ∀ w, (Instr.index 9 (.string { data := #[48, 49, 50, 51, 52, 53, 54, 55, 56, 57, 97, 98, 99, 100, 101, 102] }) (.int .u8 y)).run Tryd.prog w = .ok (.int .u8 (chrI y)) w := by
  rcases (show y = 0 ∨ y = 1 ∨ y = 2 ∨ y = 3 ∨ y = 4 ∨ y = 5 ∨ y = 6 ∨ y = 7 ∨ y = 8 ∨ y = 9 ∨ y = 10 ∨ y = 11 ∨ y = 12 ∨ y = 13 ∨ y = 14 ∨ y = 15 by omega) with rfl | rfl | rfl | rfl | rfl | rfl | rfl | rfl | rfl | rfl | rfl | rfl | rfl | rfl | rfl | rfl <;> exact fun _ => by kernel_rfl

theorem u8s_byteCells (l : List Int) (h : Bytes l) : u8s l = Lib.byteCells (l.map fun n => UInt8.ofNat n.toNat) := by
  unfold u8s Lib.byteCells
  rw [List.map_map]
  refine List.map_congr_left fun x hx => ?_
  have := h x hx
  show Value.int .u8 x = Value.int .u8 (((UInt8.ofNat x.toNat).toNat : Nat) : Int)
  rw [UInt8.toNat_ofNat']
  congr 1; omega
theorem and_15 (p : Int) (h0 : 0 ≤ p) (h1 : p ≤ 255) : bits .and .u8 p 15 = p % 16 := by
  obtain ⟨n, rfl⟩ := Int.eq_ofNat_of_zero_le h0
  have hn : n < 256 := by omega
  have key : ∀ m : Fin 256, bits .and .u8 ((m.val : Nat) : Int) 15 = ((m.val : Nat) : Int) % 16 := by set_option maxRecDepth 10000 in decide
  exact key ⟨n, hn⟩
set_option maxRecDepth 100000 in
theorem hex_c (v : Value) (xs : List Int) (w : World) (h : RdB w v xs) (hb : Bytes xs) (hl : xs.length ≤ 100000000) :
    Calls Tryd.prog 18 #[v] w fun e w' => e = .returned (.string (strOfNums (hexI xs))) ∧ Below w.heap.size w w' := by
  have hv : ∃ a cap, v = .slice a xs.length cap ∧ xs.length ≤ cap := by
    rcases h with ⟨rfl, rfl⟩ | ⟨a, g, o, cap, rfl, hc, ha, hcell⟩
    · exact ⟨_, _, rfl, Nat.le_refl _⟩
    · exact ⟨_, _, rfl, hc⟩
  have hcells : ∀ j, j < xs.length → ∃ g o cap, v = .slice (some ⟨g, o, none⟩) xs.length cap ∧ w.cell? ⟨g, o + j, none⟩ = some (.int .u8 (xs[j]?.getD 0)) := by
    intro j hj
    rcases h with ⟨rfl, rfl⟩ | ⟨a, g, o, cap, rfl, hc, ha, hcell⟩
    · simp at hj
    · exact ⟨g, o, cap, by rw [ha (by omega)], hcell j hj⟩
  obtain ⟨a, cap, rfl, hc⟩ := hv
  have HC := Lib.hid hcells
  clear hcells h
  have hfr : Lib.IsBuilder 38 5 w.heap.size w.heap.size (u8s (hexI (xs.take 0))) (w.alloc (.cells #[.pointer none, .slice none 0 0] 38)) := Lib.fresh_isBuilder 38 5 w
  go_enter Tryd.func18, Tryd.ntmps18
  go_wp2
  go_loopw [8] (fun i wr => ∃ k : Nat, k ≤ xs.length ∧ i = .int .i64 k ∧ Lib.IsBuilder 38 5 w.heap.size w.heap.size (u8s (hexI (xs.take k))) wr ∧ Below w.heap.size w wr) (fun i _ => xs.length - (intOf i).toNat)
  case atStart => exact ⟨0, by omega, rfl, hfr, bel_alloc (Below.refl _ w) _⟩
  case round =>
    obtain ⟨k, hk, rfl, hbu, hB⟩ := hrel
    have HB := hB.size
    clear hfr
    by_cases hlt : k < xs.length
    · obtain ⟨g, o, cap', e1, hcell⟩ := HC.out k hlt
      injection e1 with e1 _ e2
      subst e1; subst e2
      have hg : g < w.heap.size := block_lt_of_cell hcell
      rw [← hB.cell hg] at hcell
      have hbd := hb.at k hlt
      have hts := List.take_succ_eq_append_getElem hlt
      have hsn : hexI (xs.take (k + 1)) = hexI (xs.take k) ++ [chrI (xs[k]?.getD 0 / 16)] ++ [chrI (xs[k]?.getD 0 % 16)] := by
        rw [hts, hexI_append, List.getElem?_eq_getElem hlt]; simp [hexI]
      have hll : (hexI (xs.take k)).length ≤ 200000000 := by rw [hexI_len]; have := List.length_take_le k xs; omega
      generalize xs[k]?.getD 0 = p at *
      generalize hexI (xs.take k) = hs at *
      have l1 := let_ix (p / 16) (by omega) (by omega)
      have l2 := let_ix (p % 16) (by omega) (by omega)
      have a15 := and_15 p hbd.1 hbd.2
      have HS := Lib.hid hsn
      clear hsn hts
      have hul : (u8s hs).length ≤ 200000000 := by simpa [u8s] using hll
      have hbase : w.heap.size ≤ w.heap.size := Nat.le_refl _
      go_wp2_with first
        | (go_at_call 29; with_reducible refine (writebyte_c _ _ _ _ _ hbu (by omega) HB).mono ?_; rintro e w2 ⟨rfl, hbu2, hb2⟩; have HB2 := (hB.trans hb2).size; have hc2 := (hb2.cell (p := ⟨g, o + k, none⟩) hg).trans hcell; have hll2 : (u8s hs ++ [Value.int .u8 (chrI (p / 16))]).length ≤ 200000001 := (by rw [List.length_append]; simp; omega); clear hbu)
        | (go_at_call 29; with_reducible refine (writebyte_c _ _ _ _ _ hbu2 (by omega) HB2).mono ?_; rintro e w3 ⟨rfl, hbu3, hb3⟩)
      go_roundw
      case rel => exact ⟨k + 1, by omega, by go_num, by (rw [HS.out, ← u8s_append, ← u8s_append]; exact hbu3), (hB.trans hb2).trans hb3⟩
      case measure => simp [intOf]; omega
    · have hk : k = xs.length := by omega
      subst hk
      rw [List.take_length, u8s_byteCells _ (hexI_bytes xs hb)] at hbu
      have ks := Tryd.Builder_String_any _ _ _ wr hbu HB
      go_wp2_with (go_at_call 17; with_reducible refine ks.mono ?_; rintro e w2 ⟨rfl, hb2⟩)
      go_ret
      exact ⟨rfl, hB.trans hb2⟩

theorem letter_c (x : Int) (w : World) (h0 : 0 ≤ x) (h1 : x ≤ 15) : Calls Tryd.prog 25 #[.int .u8 x] w fun e w' => e = .returned (.int .u8 (chrI x)) ∧ w' = w := by
  unfold chrI
  by_cases h : x < 10
  · rw [if_pos h]
    go_enter Tryd.func25, Tryd.ntmps25
    go_wp2
    go_ret
    exact ⟨rfl, rfl⟩
  · rw [if_neg h]
    go_enter Tryd.func25, Tryd.ntmps25
    go_wp2
    go_ret
    exact ⟨ret_int (by omega), rfl⟩

theorem RowO.str {w : World} {B : Nat} {v : Value} {xs : List Int} (h : RowO w B v xs) : ∀ dst, Tryd.prog.underlying dst = some .string → (convert 31 dst v).run Tryd.prog w = .ok (.string (strOfNums xs)) w := by
  intro dst hd
  have h' : w.ownsRow B 5 1 v xs.length (u8s xs) := h
  obtain ⟨h1, h2⟩ := h
  rcases h2 with ⟨rfl, h2⟩ | ⟨g, cap, cur, rfl, e2, e3, e4, e5, e6, e7⟩
  · rw [List.length_eq_zero_iff.1 h2]
    exact run_convert_bytes_nil w 31 5 Tryd.underlying31 Tryd.underlying5 0 0 dst hd
  · refine run_convert_bytes_arg w 31 5 Tryd.underlying31 Tryd.underlying5 g 0 xs.length cap xs rfl (fun i hi => ?_) dst hd
    rw [Nat.zero_add, h'.cellAt i (by omega)]
    simp [u8s, List.getElem?_eq_getElem hi]

set_option maxRecDepth 100000 in
theorem rhex_c (v : Value) (xs : List Int) (w : World) (h : RdB w v xs) (hb : Bytes xs) (hl : xs.length ≤ 100000000) :
    Calls Tryd.prog 14 #[v] w fun e w' => e = .returned (.string (strOfNums (hexI xs))) ∧ Below w.heap.size w w' := by
  obtain ⟨i0, hi, hz0, hz1, hz2⟩ := info_parts Tryd.info5
  have hv : ∃ a cap, v = .slice a xs.length cap ∧ xs.length ≤ cap := by
    rcases h with ⟨rfl, rfl⟩ | ⟨a, g, o, cap, rfl, hc, ha, hcell⟩
    · exact ⟨_, _, rfl, Nat.le_refl _⟩
    · exact ⟨_, _, rfl, hc⟩
  have hcells : ∀ j, j < xs.length → ∃ g o cap, v = .slice (some ⟨g, o, none⟩) xs.length cap ∧ w.cell? ⟨g, o + j, none⟩ = some (.int .u8 (xs[j]?.getD 0)) := by
    intro j hj
    rcases h with ⟨rfl, rfl⟩ | ⟨a, g, o, cap, rfl, hc, ha, hcell⟩
    · simp at hj
    · exact ⟨g, o, cap, by rw [ha (by omega)], hcell j hj⟩
  obtain ⟨a, cap, rfl, hc⟩ := hv
  have HC := Lib.hid hcells
  clear hcells h
  go_enter Tryd.func14, Tryd.ntmps14
  go_wp2
  go_loopw [3, 4] (fun l i wr => ∃ k : Nat, k ≤ xs.length ∧ i = .int .i64 k ∧ RowO wr w.heap.size l (hexI (xs.take k)) ∧ Below w.heap.size w wr) (fun _ i _ => xs.length - (intOf i).toNat)
  case atStart => exact ⟨0, by omega, rfl, World.ownsRow_nil _ _ _ _, Below.refl _ w⟩
  case round =>
    obtain ⟨k, hk, rfl, hown, hB⟩ := hrel
    have HB := hB.size
    by_cases hlt : k < xs.length
    · obtain ⟨g, o, cap', e1, hcell⟩ := HC.out k hlt
      injection e1 with e1 _ e2
      subst e1; subst e2
      have hg : g < w.heap.size := block_lt_of_cell hcell
      rw [← hB.cell hg] at hcell
      have hbd := hb.at k hlt
      have hts := List.take_succ_eq_append_getElem hlt
      have hsn : hexI (xs.take (k + 1)) = hexI (xs.take k) ++ [chrI (xs[k]?.getD 0 / 16), chrI (xs[k]?.getD 0 % 16)] := by
        rw [hts, hexI_append, List.getElem?_eq_getElem hlt]; simp [hexI]
      have hll : (hexI (xs.take k)).length ≤ 200000000 := by rw [hexI_len]; have := List.length_take_le k xs; omega
      generalize xs[k]?.getD 0 = p at *
      unfold RowO at hown
      generalize hexI (xs.take k) = hs at *
      have HS := Lib.hid hsn
      clear hsn hts
      have hk0 : (0 : Int) ≤ (k : Int) := by omega
      have hk1 : (k : Int) < (xs.length : Int) := by omega
      have kl1 : ∀ W, Calls Tryd.prog 25 #[.int .u8 (IntKind.u8.wrap (p.tdiv 16))] W fun e w' => e = .returned (.int .u8 (chrI (p / 16))) ∧ w' = W := fun W => by
        rw [Int.tdiv_eq_ediv_of_nonneg hbd.1, show IntKind.u8.wrap (p / 16) = p / 16 by rw [IntKind.wrap_u8]; omega]
        exact letter_c (p / 16) W (by omega) (by omega)
      have kl2 : ∀ W, Calls Tryd.prog 25 #[.int .u8 (p.tmod 16)] W fun e w' => e = .returned (.int .u8 (chrI (p % 16))) ∧ w' = W := fun W => by
        rw [Int.tmod_eq_emod_of_nonneg hbd.1]
        exact letter_c (p % 16) W (by omega) (by omega)
      have hcd : wr.drew.cell? ⟨g, o + k, none⟩ = some (.int .u8 p) := hcell
      have hcv : ∀ v, wr.ownsRow w.heap.size 5 1 v hs.length (u8s hs) → wr.drew.ownsRow w.heap.size 5 1 v hs.length (u8s hs) := fun _ h => h
      have hownd := hcv _ hown
      clear hcv
      have hBd : Below w.heap.size w wr.drew := bel_call hB (below_drewN wr 1)
      have HBd : w.heap.size ≤ wr.drew.heap.size := hBd.size
      have hkw : ∀ W : World, Below w.heap.size w W → W.cell? ⟨g, o + k, none⟩ = some (.int .u8 p) := fun W hW => by
        rw [hW.cell hg]
        rw [hB.cell hg] at hcell
        exact hcell
      have HKW := Lib.hid hkw
      clear hkw
      go_wp2_with fail
      go_region_held3 (fun w' => w'.cell? ⟨g, o + k, none⟩ = some (.int .u8 p)) (first | go_keep | exact HKW.out _ hB2)
        (first | (go_at_call 25; (with_reducible refine (kl1 _).mono ?_); rintro e w2 ⟨rfl, rfl⟩) | (go_at_call 25; (with_reducible refine (kl2 _).mono ?_); rintro e w2 ⟨rfl, rfl⟩) | (refine step_append_lies _ (by rfl) _ _ _ (by rfl) w.heap.size 5 i0 (.int .u8 0) 1 1 Tryd.underlying31 hi hz0 hz1 hz2 rfl (by decide) _ _ _ (by rfl) (ownsRow_alloc hownd _) ⟨wr.heap.size, 0, none⟩ 2 2 [.int .u8 (chrI (p / 16)), .int .u8 (chrI (p % 16))] (by rfl) (by rfl) (World.news_of_block (cs := #[.int .u8 (chrI (p / 16)), .int .u8 (chrI (p % 16))]) (t := 5) (fr := (0, 0)) (heap_alloc_new _ _)) (by simp [Value.oneCell']) (by omega) (by unfold maxLen; omega) (by omega) (by simp; omega) (wr.heap.size + 1) (by simp) ?_; intro gg cap w1 hown' hgrow hat hlt'; have hB2 := grown_below (ownsRow_alloc hownd _) (Below.alloc hBd HBd _) (by simp; omega) hgrow))
      have hr : RowO w1 w.heap.size (.slice (some ⟨gg, 0, none⟩) (hs.length + 2) cap) (hexI (xs.take (k + 1))) := by
        unfold RowO
        rw [HS.out, show (hs ++ [chrI (p / 16), chrI (p % 16)]).length = hs.length + 2 by simp, show u8s (hs ++ [chrI (p / 16), chrI (p % 16)]) = u8s hs ++ [.int .u8 (chrI (p / 16)), .int .u8 (chrI (p % 16))] by simp [u8s]]
        exact hown'
      clear hgrow hown'
      go_wp2
      go_roundw
      case rel => exact ⟨k + 1, by omega, by go_num, hr, hB2⟩
      case measure => simp [intOf]; omega
    · have hk : k = xs.length := by omega
      subst hk
      rw [List.take_length] at hown
      have hbx := hexI_bytes xs hb
      have hcv2 := RowO.str hown 9 Tryd.underlying9
      go_wp2
      go_ret
      exact ⟨rfl, hB⟩
end Go.Proofs.YtoeooabaofpngaaDoor
