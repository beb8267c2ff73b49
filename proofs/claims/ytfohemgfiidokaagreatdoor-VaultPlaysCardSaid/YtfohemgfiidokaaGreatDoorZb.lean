/- How records that came in are opened; what the listed table gives. -/
import Derived.Test.YtfohemgfiidokaaGreatDoorRows
import Derived.Test.YtfohemgfiidokaaGreatDoorYv
import Derived.WalkKit
import Derived.ProofKit
import Derived.OpenShut
import Derived.ShutString
import Derived.ChangeOld
import Derived.ChangeMaps5
import Derived.Below
import Derived.Deep.Slices
import Derived.ChangeSlices
import Derived.SizedLaws
import Derived.LaidMore
import Derived.Lib.LaidTab
import Derived.Stop.Joined
namespace Go.Proofs.YtfohemgfiidokaaGreatDoor
open Go.ChangeShapes Go.WideShapes Go.ChangeAt Go.RowKit

theorem own : ownKnob Tryz.prog.godebug = none := by kernel_rfl
theorem laidOut : laidOutB Tryz.prog = true := by kernel_rfl
theorem addr_plain {w : World} {a : Addr} {v : Value} (h : w.cell? (a.add 0) = some v) : a = ⟨a.block, a.off, none⟩ := by
  obtain ⟨g, o, sp⟩ := a
  rcases sp with _ | sp
  · rfl
  · simp [Addr.add, World.cell?] at h
    split at h <;> simp at h
theorem open_bytes_at {H : Type} {enc : TypeId × Value → H} {w : World} {base fuel : Nat} {spare : Nat → Bool} {held : Bool} {cs : List Value} {x : DataW H × List MemPlace}
    (hf : DataW.trod enc Tryz.prog w base spare held fuel 40 cs = some x) : ∃ v xs, cs = [v] ∧ RdB w v xs ∧ Bytes xs ∧ (x.1 = .nil ∨ ∃ es sp, x.1 = .slice es sp ∧ es.length = xs.length) := by
  rcases open_ints Tryz.underlying40 Tryz.underlying5 (by kernel_rfl) hf with ⟨hcs, hx⟩ | ⟨a, len, cap, zs, hcs, hb, hlc, hm, hzl, hx, hel, hw⟩
  · exact ⟨_, [], hcs, .inl ⟨rfl, rfl⟩, (fun b hb => by cases hb), .inl (by rw [hx])⟩
  · have hll : len ≤ zs.length := by rw [hzl]; split <;> omega
    have hl2 : (zs.take len).length = len := by rw [List.length_take]; omega
    refine ⟨_, zs.take len, hcs, .inr ⟨a, a.block, a.off, cap, by rw [hl2], by omega, fun h0 => addr_plain (hel 0 (by omega)), fun j hj => ?_⟩, fun b hbm => ?_, .inr ⟨_, _, by rw [hx], by simp [lits]⟩⟩
    · have h1 := hel j (by omega)
      have hap := addr_plain (hel 0 (by omega))
      rw [hap, Addr.add_lit] at h1
      rw [h1, List.getElem?_take, if_pos (by omega), List.getD_eq_getElem?_getD]
    · exact bounds_u8 (hw b (List.mem_of_mem_take hbm))

theorem weights_mem_all {H : Type} {P : Program} {e : TypeId} {n : Nat} : ∀ {ds : List (DataW H)} {d : DataW H}, d ∈ ds → n ∈ d.weights P e → n ∈ DataW.weightsAll P e ds
  | d0 :: ds, d, hd, hn => by
    simp only [DataW.weightsAll, List.mem_append]
    rcases List.mem_cons.1 hd with rfl | hd
    · exact .inl hn
    · exact .inr (weights_mem_all hd hn)
theorem bytesU : Tryz.prog.bytesOf 5 = 1 := by kernel_rfl
theorem bytesS : Tryz.prog.bytesOf 40 = 24 := by kernel_rfl
theorem reach_lt : reachBytes < 140737488355328 := by decide
theorem open_rows_at {H : Type} {enc : TypeId × Value → H} {w : World} {base fuel : Nat} {spare : Nat → Bool} {held : Bool} {cs : List Value} {x : DataW H × List MemPlace}
    (hf : DataW.trod enc Tryz.prog w base spare held fuel 39 cs = some x) (hw : ∀ n ∈ x.1.weights Tryz.prog 39, n ≤ reachBytes) :
    ∃ (v : Value) (Ls : List (List Int)), cs = [v] ∧ RdL w v Ls ∧ (∀ l ∈ Ls, Bytes l) ∧ Ls.length ≤ 10000000000000 ∧ (∀ l ∈ Ls, l.length ≤ 1000000000000000) := by
  have hr := reach_lt
  rcases Deep.open_slice1 Tryz.underlying39 (by kernel_rfl) hf with ⟨hcs, hx⟩ | ⟨a, len, cap, m, n, V, D, Pl, hcs, hb, hlc, hm, hmm, hx, hel⟩
  · exact ⟨_, [], hcs, .inl ⟨rfl, rfl⟩, (fun l hl => by cases hl), by simp, fun l hl => by cases hl⟩
  · have hlm : len ≤ m := by rw [hmm]; split <;> omega
    have key : ∀ i, i < len → ∃ xs : List Int, RdB w (V i) xs ∧ Bytes xs ∧ (D i = .nil ∨ ∃ es sp, D i = .slice es sp ∧ es.length = xs.length) ∧ (xs.length = 0 ∨ True) := by
      intro i hi
      obtain ⟨v, xs, h1, h2, h3, h4⟩ := open_bytes_at (hel i (by omega)).2
      injection h1 with h1
      exact ⟨xs, by rw [h1]; exact h2, h3, h4, .inr trivial⟩
    obtain ⟨Xs, hXs⟩ := Deep.choose_lt key
    rw [hx] at hw
    simp only [DataW.weights, Tryz.underlying39, bytesS] at hw
    have hlen := hw ((len + (m - len)) * 24) (by simp)
    have hget : ∀ j (h : j < ((List.range len).map Xs).length), ((List.range len).map Xs)[j] = Xs j := fun j h => by simp
    refine ⟨_, (List.range len).map Xs, hcs, .inr ⟨a, a.block, a.off, cap, by simp, by simp; omega, fun h0 => ?_, fun j hj => ?_⟩, fun l hl => ?_, by simp; omega, fun l hl => ?_⟩
    · exact addr_plain (hel 0 (by simp at h0; omega)).1
    · have hj' : j < len := by simpa using hj
      have h1 := (hel j (by omega)).1
      rw [addr_plain (hel 0 (by omega)).1, Addr.add_lit] at h1
      exact ⟨V j, h1, by rw [List.getElem?_eq_getElem hj, Option.getD_some, hget j hj]; exact (hXs j hj').1⟩
    · obtain ⟨i, hi, rfl⟩ := List.mem_map.1 hl
      exact (hXs i (by simpa using hi)).2.1
    · obtain ⟨i, hi, rfl⟩ := List.mem_map.1 hl
      have hi' : i < len := by simpa using hi
      rcases (hXs i hi').2.2.1 with hd | ⟨es, sp, hd, he⟩
      · have hz : (Xs i).length = 0 := by
          obtain ⟨v, xs, h1, h2, -, h4⟩ := open_bytes_at (hel i (by omega)).2
          rcases h2 with ⟨h5, h6⟩ | ⟨a2, g2, o2, c2, h5, h6, h7, h8⟩
          · rcases (hXs i hi').1 with ⟨-, h9⟩ | ⟨a3, g3, o3, c3, h9, -⟩
            · rw [h9]; rfl
            · injection h1 with h1
              rw [h1, h5] at h9
              injection h9 with _ h10 _
              omega
          · rcases h4 with h4 | ⟨es, sp, h4, h4'⟩
            · have hn := (hel i (by omega)).2
              rcases open_ints Tryz.underlying40 Tryz.underlying5 (by kernel_rfl) hn with ⟨h9, -⟩ | ⟨a9, l9, c9, z9, -, -, -, -, -, h10, -⟩
              · rcases (hXs i hi').1 with ⟨-, h11⟩ | ⟨a3, g3, o3, c3, h11, -⟩
                · rw [h11]; rfl
                · injection h9 with h9
                  rw [h9] at h11
                  injection h11 with _ h12 _
                  omega
              · have h10' := congrArg Prod.fst h10
                simp only at h10'
                rw [hd] at h10'
                cases h10'
            · simp only at h4
              rw [hd] at h4
              cases h4
        omega
      · have := hw ((es.length + sp.length) * 1) (by
          refine List.mem_cons_of_mem _ (List.mem_append_left _ (weights_mem_all (d := D i) (List.mem_map.2 ⟨i, hi, rfl⟩) ?_))
          rw [hd]
          simp [DataW.weights, Tryz.underlying40, bytesU])
        omega

set_option maxRecDepth 100000 in
theorem open_rows {H : Type} {enc : TypeId × Value → H} {w : World} {base b2 : Nat} {spare : Nat → Bool} {held : Bool} {r} {v : Value} {d : DataW H} {ps : List MemPlace}
    (ho : Value.okWide Tryz.prog w r b2 39 v) (h : DataW.Trod enc Tryz.prog w base spare held 39 v d ps) (hw : ∀ n ∈ d.weights Tryz.prog 39, n ≤ reachBytes) :
    ∃ Ls : List (List Int), RdL w v Ls ∧ (∀ l ∈ Ls, Bytes l) ∧ Ls.length ≤ 10000000000000 ∧ (∀ l ∈ Ls, l.length ≤ 1000000000000000) := by
  obtain ⟨p, len, cap, rfl⟩ := okWide_slice Tryz.underlying39 ho
  obtain ⟨fuel, hf⟩ := h
  obtain ⟨v, Ls, h1, h2⟩ := open_rows_at (cs := [.slice p len cap]) hf hw
  injection h1 with h1
  subst h1
  exact ⟨Ls, h2⟩
theorem gTab : Tryz.prog.globalNamed "scantling/sha.table" = some 0 := by kernel_rfl
theorem tTab : (Tryz.prog.globals[0]?).map (·.type) = some 161 := by kernel_rfl
abbrev laid1 : List (String × DataW Unit) := [("scantling/sha.table", Rows.laid_scantling_sha_table)]
set_option maxRecDepth 1000000 in
/-- the listed table stands in the heap that the door's own run leaves -/
theorem door_met (os : Os) (args : Array Value) : laidMetH Tryz.prog laid1 ((World.doorLaid Tryz.prog 400 os).forCall (fun _ _ => 0) ⟨#[], args, []⟩).memory :=
  laidMetH_of_parts3 (fuel := 8) (laidMet_of_run' 8 (by kernel_rfl) (by kernel_rfl)) (by kernel_rfl) (by kernel_rfl)
set_option maxRecDepth 1000000 in
/-- what the condition gives the walks -/
theorem of_laid {W : World} (h : laidMetH Tryz.prog laid1 W) : KTab W := by
  rw [MakeChecks.laidMetH_plain _ _ _ (by kernel_rfl)] at h
  obtain ⟨ps, ⟨g3, t3, cs3, f3, p3, q3, hg3, ht3, hv3, hd3, _, _⟩, _⟩ := h
  obtain rfl := Option.some.inj (gTab.symm.trans hg3)
  obtain rfl := Option.some.inj (tTab.symm.trans ht3)
  have e3 := Lib.cells_of_tab (zs := kTab) Tryz.underlying161 Tryz.underlying144 (by kernel_rfl) (by kernel_rfl) hd3
  unfold World.var? at hv3
  simp only [hg3, Option.bind_some] at hv3
  split at hv3
  · rename_i c t fr hc
    cases hv3
    refine ⟨t, fr, ?_⟩
    rw [hc, ← e3]
  · cases hv3
end Go.Proofs.YtfohemgfiidokaaGreatDoor
