/- The walk of VaultNil. -/
import Derived.Test.YtfohemgfiidokaaDoorYy
namespace Go.Proofs.YtfohemgfiidokaaDoor
open Go.RowKit Go.Sort

set_option maxRecDepth 100000 in
set_option maxHeartbeats 1600000 in
theorem nil_t (p : Option Addr) (n cap : Nat) (w : World) (ht : KTab w) : Calls Tryd.prog 7 #[.slice p n cap] w fun e w' => e = .returned (.bool true) ∧ RowKit.Below w.heap.size w w' := by
  have HW := Lib.hid fun W (hb : RowKit.Below w.heap.size w W) => works_c W (ht.call hb)
  by_cases h100 : (100 : Int) < n
  · have hd : decide ((100 : Int) < n) = true := decide_eq_true h100
    clear h100
    go_enter Tryd.func7, Tryd.ntmps7
    go_wp2_with (go_at_call 9; with_reducible refine (HW.out _ (RowKit.Below.refl _ _)).mono ?_; rintro e w1 ⟨rfl, hb1⟩)
    go_ret
    exact ⟨rfl, hb1⟩
  · have hd : decide ((100 : Int) < n) = false := decide_eq_false h100
    clear h100
    go_enter Tryd.func7, Tryd.ntmps7
    go_wp2_with (first
      | (go_at_call 11; (with_reducible refine (open_nil _).mono ?_); rintro e w1 ⟨rfl, hb1⟩)
      | (go_at_call 12; (with_reducible refine (add_nil _ _ _ _).mono ?_); rintro e w2 ⟨rfl, hb2⟩; have hb2 := bel_call hb1 hb2)
      | (go_at_call 13; (with_reducible refine (compact_nil _ _ _ _).mono ?_); rintro e w3 ⟨rfl, hb3⟩; have hb3 := bel_call hb2 hb3)
      | (go_at_call 25; (with_reducible refine (gen_nil _).mono ?_); rintro e x ⟨rfl, hx⟩; obtain rfl := hx.symm)
      | (go_at_call 26; (with_reducible refine (len_nil _).mono ?_); rintro e x ⟨rfl, hx⟩; obtain rfl := hx.symm)
      | (go_at_call 9; (with_reducible refine (HW.out _ hb3).mono ?_); rintro e w4 ⟨rfl, hb4⟩; have hb4 := bel_call hb3 hb4)
      | fail)
    go_ret
    exact ⟨rfl, hb4⟩
theorem nil_w (v : Value) (ls : List (List Int)) (w : World) (hv : RdL w v ls) (_ : ∀ l ∈ ls, Bytes l) (_ : ls.length ≤ 10000000000000) (_ : ∀ l ∈ ls, l.length ≤ 1000000000000000) (ht : KTab w) : Calls Tryd.prog 7 #[v] w fun e w' => e = .returned (.bool true) ∧ RowKit.Below w.heap.size w w' := by
  obtain ⟨p, cap, rfl, -⟩ := hv.shape
  exact nil_t p ls.length cap w ht
end Go.Proofs.YtfohemgfiidokaaDoor
