/- The plain law of StatusApart; two arrays and two texts compared. -/
import Derived.Test.YtoeooabaofpngaaDoorVj
import Derived.Test.YtoeooabaofpngaaDoorVk
namespace Go.Proofs.YtoeooabaofpngaaDoor
open Go.RowKit Go.Sort

instance enEq : DecidableEq En := fun x y => decidable_of_iff (x.h = y.h ∧ x.t = y.t) (by cases x; cases y; simp)
/-- are two histories the same as far as k? -/
def smB (l m : List En) (k : Nat) : Bool := decide (l.length = m.length ∧ l.take k = m.take k)
theorem smB_zero (l m : List En) : smB l m 0 = decide (l.length = m.length) := by unfold smB; simp
theorem smB_true (l m : List En) (k : Nat) : smB l m k = true ↔ l.length = m.length ∧ l.take k = m.take k := by unfold smB; simp
theorem smB_next (l m : List En) (k : Nat) (x y : En) (hx : l[k]? = some x) (hy : m[k]? = some y) (h : smB l m k = true) : smB l m (k + 1) = (x.h == y.h && x.t == y.t) := by
  obtain ⟨h1, h2⟩ := (smB_true l m k).1 h
  rw [Bool.eq_iff_iff, en_beq, smB_true, List.take_add_one, List.take_add_one, hx, hy, h2]
  simp [h1]
theorem smB_end (l m : List En) (k : Nat) (h : ¬ k < l.length ∨ smB l m k = false) : smB l m k = true ↔ l = m := by
  rw [smB_true]
  constructor
  · rintro ⟨h1, h2⟩
    rcases h with h | h
    · rwa [List.take_of_length_le (by omega), List.take_of_length_le (by omega)] at h2
    · rw [(smB_true l m k).2 ⟨h1, h2⟩] at h; cases h
  · rintro rfl; exact ⟨rfl, rfl⟩
theorem str_beq (a b : List Int) (ha : Bytes a) (hb : Bytes b) (r : Bool) (h : r = true ↔ a = b) : ((strOfNums a).toList == (strOfNums b).toList) = r ∧ (strOfNums a == strOfNums b) = r := by
  have h2 : ((strOfNums a).toList == (strOfNums b).toList) = r := by
    rw [Bool.eq_iff_iff, h, beq_iff_eq, ByteArray.toList_eq, ByteArray.toList_eq]
    constructor
    · intro e
      exact (str_inj ha hb).1 (ByteArray.ext (Array.toList_inj.1 e))
    · rintro rfl; rfl
  exact ⟨h2, by rw [beq_toListBytes, h2]⟩
theorem tx_beq (l m : List En) (ol : EnsOk l) (om : EnsOk m) (r : Bool) (h : r = true ↔ l = m) : ((strOfNums (txF l)).toList == (strOfNums (txF m)).toList) = r ∧ (strOfNums (txF l) == strOfNums (txF m)) = r :=
  str_beq _ _ (txF_bytes l ol) (txF_bytes m om) r (h.trans ⟨fun e => by rw [e], txF_inj l m ol om⟩)
theorem of_beq0 (l m : List En) (h0 : l.length = 0 ∨ m.length = 0) (r : Bool) (h : r = true ↔ l = m) : ((strOfNums (ofF l)).toList == (strOfNums (ofF m)).toList) = r ∧ (strOfNums (ofF l) == strOfNums (ofF m)) = r := by
  refine str_beq _ _ (ofF_bytes l) (ofF_bytes m) r (h.trans ⟨fun e => by rw [e], fun e => ?_⟩)
  have hne : ∀ x : List En, x ≠ [] → (ofF x).length = 64 := fun x hx => by rw [ofF_ne x hx, hexI_len, shaF_len]
  rcases h0 with h0 | h0
  · have := List.length_eq_zero_iff.1 h0
    subst this
    by_cases hm : m = []
    · exact hm.symm
    · have := hne m hm
      rw [← e, ofF_nil] at this; simp at this
  · have := List.length_eq_zero_iff.1 h0
    subst this
    by_cases hm : l = []
    · exact hm
    · have := hne l hm
      rw [e, ofF_nil] at this; simp at this
theorem of_beq (l m : List En) (hl : l ≠ []) (hm : m ≠ []) : ((strOfNums (ofF l)).toList == (strOfNums (ofF m)).toList) = (shaF (txF l) == shaF (txF m)) ∧ (strOfNums (ofF l) == strOfNums (ofF m)) = (shaF (txF l) == shaF (txF m)) := by
  refine str_beq _ _ (ofF_bytes l) (ofF_bytes m) _ ?_
  rw [beq_iff_eq, ofF_ne l hl, ofF_ne m hm]
  exact ⟨fun e => by rw [e], fun e => hexI_inj (shaF_bytes _) (shaF_bytes _) e⟩
end Go.Proofs.YtoeooabaofpngaaDoor
