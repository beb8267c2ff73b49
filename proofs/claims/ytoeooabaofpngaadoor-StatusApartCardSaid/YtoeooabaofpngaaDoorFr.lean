/- How entries that came in are opened; what the listed tables give. -/
import Derived.Test.YtoeooabaofpngaaDoorRows
import Derived.Test.YtoeooabaofpngaaDoorVj
import Derived.WalkKit
import Derived.ProofKit
import Derived.OpenShut
import Derived.ChangeOld
import Derived.ChangeMaps5
import Derived.Below
import Derived.Deep.Slices
import Derived.ChangeSlices
import Derived.LaidMore
import Derived.Lib.LaidTab
import Derived.Stop.Joined
namespace Go.Proofs.YtoeooabaofpngaaDoor
open Go.ChangeShapes Go.WideShapes Go.ChangeAt Go.RowKit

theorem own : ownKnob Tryd.prog.godebug = none := by kernel_rfl
theorem laidOut : laidOutB Tryd.prog = true := by kernel_rfl
theorem addr_plain {w : World} {a : Addr} {v : Value} (h : w.cell? (a.add 0) = some v) : a = ⟨a.block, a.off, none⟩ := by
  obtain ⟨g, o, sp⟩ := a
  rcases sp with _ | sp
  · rfl
  · simp [Addr.add, World.cell?] at h
    split at h <;> simp at h
theorem open_intarr {H : Type} {enc : TypeId × Value → H} {P : Program} {w : World} {base fuel : Nat} {spare : Nat → Bool} {held : Bool} {t e : TypeId} {n : Nat} {k : IntKind} {l : List Value} {x : DataW H × List MemPlace}
    (ht : P.underlying t = some (.array n e)) (he : P.underlying e = some (.int k)) (hc : P.cellsOf e = 1) (hct : P.cellsOf t = n) (hf : DataW.trod enc P w base spare held fuel t l = some x) :
    ∃ zs : List Int, l = zs.map (Value.int k) ∧ zs.length = n ∧ ∀ z ∈ zs, (Lit.int k z).wf = true := by
  obtain ⟨xs, m, _, _, hl, hx, hel⟩ := DataW.trod_array ht hf
  rw [hct] at hl
  have key : ∀ i (hi : i < l.length), ∃ z, l[i] = .int k z ∧ (Lit.int k z).wf = true := by
    intro i hi
    have := hel i (by omega)
    rw [hc, Nat.mul_one, List.getElem?_eq_getElem (by omega)] at this
    obtain ⟨z, hz, _, hw⟩ := DataW.trod_int he this
    rw [List.drop_eq_getElem_cons hi] at hz
    simp only [List.take_succ_cons, List.take_zero, List.cons.injEq, and_true] at hz
    exact ⟨z, hz, hw⟩
  refine ⟨l.map intOf, ?_, by simpa using hl, ?_⟩
  · rw [List.map_map]
    apply List.ext_getElem (by simp)
    intro i h1 h2
    obtain ⟨z, hz, _⟩ := key i h1
    simp [hz, intOf]
  · intro z hz
    obtain ⟨v, hv, rfl⟩ := List.mem_map.1 hz
    obtain ⟨i, hi, rfl⟩ := List.getElem_of_mem hv
    obtain ⟨z, hz, hw⟩ := key i hi
    rw [hz]; exact hw
theorem fs_entry : ∃ f0 f1, Tryd.prog.underlying 29 = some (.struct #[f0, f1]) ∧ f0.type = 3 ∧ f0.offset = 0 ∧ f1.type = 27 ∧ f1.offset = 1 := ⟨_, _, Tryd.underlying29, rfl, rfl, rfl, rfl⟩
theorem open_ents {H : Type} {enc : TypeId × Value → H} {w : World} {base b2 : Nat} {spare : Nat → Bool} {held : Bool} {r} {v : Value} {d : DataW H} {ps : List MemPlace}
    (ho : Value.okWide Tryd.prog w r b2 22 v) (h : DataW.Trod enc Tryd.prog w base spare held 22 v d ps) : ∃ l, RdE w v l ∧ EnsOk l ∧ l.length ≤ maxLen := by
  obtain ⟨p, len0, cap0, rfl⟩ := okWide_slice Tryd.underlying22 ho
  obtain ⟨fuel, hf⟩ := h
  have hf' : DataW.trod enc Tryd.prog w base spare held fuel 22 [.slice p len0 cap0] = some (d, ps) := hf
  rcases Deep.open_slice Tryd.underlying22 hf' with ⟨hcs, -⟩ | ⟨a, len, cap, m, n, D, Pl, hcs, hb, hlc, hm, hmm, hx, hel⟩
  · injection hcs with h1
    exact ⟨[], .inl ⟨h1, rfl⟩, fun x hx => by simp at hx, by simp⟩
  · injection hcs with h1
    injection h1 with h2 h3 h4
    subst h2 h3 h4
    have hlm : len0 ≤ m := by rw [hmm]; split <;> omega
    have hc33 : Tryd.prog.cellsOf 29 = 33 := by kernel_rfl
    have hcI : Tryd.prog.cellsOf 3 = 1 := by kernel_rfl
    have hcH : Tryd.prog.cellsOf 27 = 32 := by kernel_rfl
    have key : ∀ i, i < len0 → ∃ x : En, x.Ok ∧ ∀ j v, (enV x)[j]? = some v → w.cell? ((a.add (i * 33)).add j) = some v := by
      intro i hi
      obtain ⟨cs', h5, h6⟩ := hel i (by omega)
      rw [hc33] at h5
      obtain ⟨-, hl5, hc⟩ := World.cells?_some h5
      obtain ⟨f0, f1, hu, t0, o0, t1, o1⟩ := fs_entry
      obtain ⟨y0, y1, n', -, -, q0, q1⟩ := trod_struct2 hu h6
      rw [t0, o0, hcI] at q0
      rw [t1, o1, hcH] at q1
      obtain ⟨z, e0, -, w0⟩ := DataW.trod_int Tryd.underlying3 q0
      obtain ⟨zs, e1, hl, hw⟩ := open_intarr Tryd.underlying27 Tryd.underlying5 (by kernel_rfl) hcH q1
      have hcs' : cs' = enV ⟨z, zs⟩ := by
        have h7 : cs' = cs'.take 1 ++ (cs'.drop 1).take 32 := by
          rw [List.take_of_length_le (l := cs'.drop 1) (by rw [List.length_drop, hl5]; omega), List.take_append_drop]
        rw [List.drop_zero] at e0
        exact h7.trans (by rw [e0, e1]; rfl)
      have hb := bounds_i64 w0
      refine ⟨⟨z, zs⟩, ⟨hb.1, hb.2, hl, fun b hb => bounds_u8 (hw b hb)⟩, fun j v hv => ?_⟩
      rw [← hcs'] at hv
      have hj : j < 33 := by
        rw [← hl5]
        rcases Nat.lt_or_ge j cs'.length with h | h
        · exact h
        · rw [List.getElem?_eq_none h] at hv; cases hv
      rw [hc j hj]; exact hv
    haveI : Inhabited En := ⟨⟨0, []⟩⟩
    obtain ⟨X, hX⟩ := Deep.choose_lt key
    have hlen : ((List.range len0).map X).length = len0 := by simp
    have hget : ∀ (j : Nat) (x : En), ((List.range len0).map X)[j]? = some x → j < len0 ∧ x = X j := by
      intro j x hj
      rw [List.getElem?_map] at hj
      obtain ⟨i, hi, rfl⟩ := Option.map_eq_some_iff.1 hj
      rw [List.getElem?_eq_some_iff] at hi
      obtain ⟨h1, h2⟩ := hi
      rw [List.getElem_range] at h2
      subst h2
      exact ⟨by simpa using h1, rfl⟩
    refine ⟨(List.range len0).map X, .inr ⟨a, a.block, a.off, cap0, by rw [hlen], by rw [hlen]; exact hlc, fun h0 => ?_, fun j x hj u v hv => ?_⟩, fun x hx => ?_, by rw [hlen]; omega⟩
    · rw [hlen] at h0
      have h8 := (hX 0 h0).2 0 _ rfl
      rw [Nat.zero_mul] at h8
      have h9 : a.add 0 = a := by
        obtain ⟨g, o, sp⟩ := a
        rcases sp with _ | sp <;> simp [Addr.add]
      rw [h9] at h8
      have h10 := addr_plain h8
      rw [h10, Addr.add_lit] at h8
      have h12 := block_lt_of_cell h8
      exact ⟨h10, h12⟩
    · obtain ⟨hj', rfl⟩ := hget j x hj
      have h0 : 0 < len0 := by omega
      have h8 := (hX 0 h0).2 0 _ rfl
      rw [Nat.zero_mul] at h8
      have h9 : a.add 0 = a := by
        obtain ⟨g, o, sp⟩ := a
        rcases sp with _ | sp <;> simp [Addr.add]
      rw [h9] at h8
      have h10 := addr_plain h8
      have h11 := (hX j hj').2 u v hv
      rw [h10, Addr.add_lit, Addr.add_lit] at h11
      exact h11
    · obtain ⟨i, hi, rfl⟩ := List.mem_map.1 hx
      exact (hX i (by simpa using hi)).1
theorem gPow : Tryd.prog.globalNamed "internal/strconv.uint64pow10" = some 1 := by kernel_rfl
theorem gTab : Tryd.prog.globalNamed "scantling/sha.table" = some 0 := by kernel_rfl
theorem tPow : (Tryd.prog.globals[1]?).map (·.type) = some 90 := by kernel_rfl
theorem tTab : (Tryd.prog.globals[0]?).map (·.type) = some 80 := by kernel_rfl
abbrev laid4 : List (String × DataW Unit) := [("math/bits.deBruijn32tab", Rows.laid_math_bits_deBruijn32tab), ("math/bits.deBruijn64tab", Rows.laid_math_bits_deBruijn64tab), ("internal/strconv.uint64pow10", Rows.laid_internal_strconv_uint64pow10), ("scantling/sha.table", Rows.laid_scantling_sha_table)]
/-- the listed tables stand in the heap that the door's own run leaves -/
theorem door_met (os : Os) (args : Array Value) : laidMetH Tryd.prog laid4 ((World.doorLaid Tryd.prog 400 os).forCall (fun _ _ => 0) ⟨#[], args, []⟩).memory :=
  laidMetH_of_parts3 (fuel := 8) (laidMet_of_run' 8 (by kernel_rfl) (by kernel_rfl)) (by kernel_rfl) (by kernel_rfl)
/-- what the condition gives the walks -/
theorem of_laid {W : World} (h : laidMetH Tryd.prog laid4 W) : KTab W ∧ PTab W := by
  rw [MakeChecks.laidMetH_plain _ _ _ (by kernel_rfl)] at h
  obtain ⟨ps, ⟨g0, t0, cs0, f0, p0, q0, hg0, ht0, hv0, hd0, ⟨g1, t1, cs1, f1, p1, q1, hg1, ht1, hv1, hd1, ⟨g2, t2, cs2, f2, p2, q2, hg2, ht2, hv2, hd2, ⟨g3, t3, cs3, f3, p3, q3, hg3, ht3, hv3, hd3, _, _⟩, _⟩, _⟩, _⟩, _, _⟩ := h
  obtain rfl := Option.some.inj (gPow.symm.trans hg2)
  obtain rfl := Option.some.inj (gTab.symm.trans hg3)
  obtain rfl := Option.some.inj (tPow.symm.trans ht2)
  obtain rfl := Option.some.inj (tTab.symm.trans ht3)
  have e2 := Lib.cells_of_tab (zs := Lib.pow10Tab) Tryd.underlying90 Tryd.underlying65 (by kernel_rfl) (by kernel_rfl) hd2
  have e3 := Lib.cells_of_tab (zs := kTab) Tryd.underlying80 Tryd.underlying46 (by kernel_rfl) (by kernel_rfl) hd3
  constructor
  · unfold World.var? at hv3
    simp only [hg3, Option.bind_some] at hv3
    split at hv3
    · rename_i c t fr hc
      cases hv3
      refine ⟨t, fr, ?_⟩
      rw [hc, ← e3]
    · cases hv3
  · show World.var? _ _ _ = _
    rw [hv2, ← e2]
end Go.Proofs.YtoeooabaofpngaaDoor
