/- The document's word of a history; the sum of its text. -/
import Derived.Test.YtoeooabaofpngaaDoorVe
namespace Go.Proofs.YtoeooabaofpngaaDoor
open Go.RowKit Go.Sort
attribute [local go_sem ↓] Go.wp_at_zero Go.wp_at_succ

set_option maxRecDepth 100000 in
set_option maxHeartbeats 4000000 in
theorem rof_c (v : Value) (l : List En) (w : World) (h : RdE w v l) (ok : EnsOk l) (hl : l.length ≤ 10000) :
    Calls Tryd.prog 8 #[v] w fun e w' => e = .returned (.string (strOfNums (ofF l))) ∧ Below w.heap.size w w' := by
  have ktx := tx_c v l w h ok hl
  obtain ⟨p, cap, rfl⟩ := h.form
  by_cases hn : 0 < l.length
  case neg =>
    have : l = [] := List.length_eq_zero_iff.1 (by omega)
    subst this
    go_enter Tryd.func8, Tryd.ntmps8
    go_wp2_with fail
    go_ret
    exact ⟨rfl, Below.refl _ _⟩
  have hne : l ≠ [] := by intro e; subst e; simp at hn
  have HOF := Lib.hid (ofF_ne l hne)
  have hln : ((l.length : Int) == 0) = false := by simp; omega
  have htl := txF_len l ok
  have htb := txF_bytes l ok
  clear h hne ok
  generalize txF l = tx at *
  have HX := Lib.hid (fun W => str_bytes W tx htb)
  have KSHA := Lib.hid (show ∀ v W, RdB W v tx → Calls Tryd.prog 12 #[v] W fun e w' => e = .returned (.agg ((shaF tx).map (Value.int .u8)).toArray) ∧ Below W.heap.size W w' from fun v W h1 => rsum_c v _ W h1 htb (by omega))
  have hsl := shaF_len tx
  have hsb := Lib.hid (shaF_bytes tx)
  generalize shaF tx = ss at *
  have HI3 := Lib.hid (info27 (ss.map (Value.int .u8)).toArray.size (by simpa using hsl)); have H32 := Lib.hid hsl
  have H13 := Lib.hid (oneCell_map .u8 ss)
  have KX := Lib.hid (show ∀ W g, RowT 27 .u8 g ss W → Calls Tryd.prog 14 #[.slice (some ⟨g, 0, none⟩) 32 32] W fun e w' => e = .returned (.string (strOfNums (hexI ss))) ∧ Below W.heap.size W w' from fun W g hr => by
    have := rhex_c (.slice (some ⟨g, 0, none⟩) ss.length 32) ss W (rdb_of_row hr (by rw [H32.out]; omega)) hsb.out (by rw [H32.out]; omega)
    rw [H32.out] at this; exact this)
  clear hsl htb
  go_enter Tryd.func8, Tryd.ntmps8
  go_upto_region 4 with (first
    | (go_at_call 11; (with_reducible refine ktx.mono ?_); rintro e w2 ⟨rfl, hb2⟩; obtain ⟨cap2, W1, hcv, hrd, hbw⟩ := HX.out w2)
    | (go_at_call 12; (with_reducible refine (KSHA.out _ _ hrd).mono ?_); rintro e w3 ⟨rfl, hb3⟩; have hB3 := bel_call (bel_call hb2 hbw) hb3)
    | (refine wpList_store_row rfl 27 _ _ rfl _ rfl _ rfl 27 _ (heap_alloc_new _ _) HI3.out (by simp [H32.out]) H13.out ?_))
  refine wp_gen (fun W => RowT 27 .u8 w3.heap.size ss W ∧ Below w.heap.size w W) ⟨setRow_heap _ _ _ _ 27 _ (heap_alloc_new _ _), _root_.Go.below_setRow (bel_alloc hB3 _) hB3.size _⟩ ?_
  rintro W ⟨hR, hBW⟩
  simp only [Act.put]
  go_wp2_with (go_at_call 14; (with_reducible refine (KX.out _ _ hR).mono ?_); rintro e w4 ⟨rfl, hb4⟩)
  go_ret
  exact ⟨by rw [HOF.out]; rfl, bel_call hBW hb4⟩
end Go.Proofs.YtoeooabaofpngaaDoor
