/- How slices of slices of bytes, pairs of those, and slices of integers that came in are opened. -/
import Derived.Test.YtfohemgfiidokaaKw
import Derived.SizedLaws
namespace Go.Proofs.Ytfohemgfiidokaa
open Go.ChangeShapes Go.WideShapes Go.ChangeAt Go.RowKit diskKeeps

theorem weights_mem_all {H : Type} {P : Program} {e : TypeId} {n : Nat} : ∀ {ds : List (DataW H)} {d : DataW H}, d ∈ ds → n ∈ d.weights P e → n ∈ DataW.weightsAll P e ds
  | d0 :: ds, d, hd, hn => by
    simp only [DataW.weightsAll, List.mem_append]
    rcases List.mem_cons.1 hd with rfl | hd
    · exact .inl hn
    · exact .inr (weights_mem_all hd hn)
theorem bytes5 : Try.prog.bytesOf 5 = 1 := by kernel_rfl
theorem bytes33 : Try.prog.bytesOf 33 = 24 := by kernel_rfl
theorem reach_lt : reachBytes < 140737488355328 := by decide

theorem open_rows_at {H : Type} {enc : TypeId × Value → H} {w : World} {base fuel : Nat} {spare : Nat → Bool} {held : Bool} {cs : List Value} {x : DataW H × List MemPlace}
    (hf : DataW.trod enc Try.prog w base spare held fuel 39 cs = some x) (hw : ∀ n ∈ x.1.weights Try.prog 39, n ≤ reachBytes) :
    ∃ v Ls, cs = [v] ∧ BB w v Ls ∧ Ls.length ≤ 10000000000000 ∧ (∀ l ∈ Ls, l.length ≤ 1000000000000000) := by
  have hr := reach_lt
  rcases Deep.open_slice1 Try.underlying39 (by kernel_rfl) hf with ⟨hcs, hx⟩ | ⟨a, len, cap, m, n, V, D, Pl, hcs, hb, hlc, hm, hmm, hx, hel⟩
  · exact ⟨_, [], hcs, .inl ⟨rfl, rfl⟩, by simp, fun l hl => by cases hl⟩
  · have hlm : len ≤ m := by rw [hmm]; split <;> omega
    have key : ∀ i, i < len → ∃ xs : List Int, RdB w (V i) xs ∧ (D i = .nil ∨ ∃ es sp, D i = .slice es sp ∧ es.length = xs.length) ∧ (xs.length = 0 ∨ True) := by
      intro i hi
      obtain ⟨v, xs, h1, h2, -, h4⟩ := open_bytes_at (hel i (by omega)).2
      injection h1 with h1
      exact ⟨xs, by rw [h1]; exact h2, h4, .inr trivial⟩
    obtain ⟨Xs, hXs⟩ := Deep.choose_lt key
    rw [hx] at hw
    simp only [DataW.weights, Try.underlying39, bytes33] at hw
    have hlen := hw ((len + (m - len)) * 24) (by simp)
    have hget : ∀ j (h : j < ((List.range len).map Xs).length), ((List.range len).map Xs)[j] = Xs j := fun j h => by simp
    refine ⟨_, (List.range len).map Xs, hcs, .inr ⟨a, a.block, a.off, cap, by simp, fun h0 => ?_, fun j hj => ?_⟩, by simp; omega, fun l hl => ?_⟩
    · exact addr_plain (hel 0 (by simp at h0; omega)).1
    · have hj' : j < len := by simpa using hj
      have h1 := (hel j (by omega)).1
      rw [addr_plain (hel 0 (by omega)).1, Addr.add_lit] at h1
      exact ⟨V j, h1, by rw [hget j hj]; exact (hXs j hj').1⟩
    · obtain ⟨i, hi, rfl⟩ := List.mem_map.1 hl
      have hi' : i < len := by simpa using hi
      rcases (hXs i hi').2.1 with hd | ⟨es, sp, hd, he⟩
      · have hz : (Xs i).length = 0 := by
          obtain ⟨v, xs, h1, h2, -, h4⟩ := open_bytes_at (hel i (by omega)).2
          rcases h2 with ⟨h5, h6⟩ | ⟨a2, g2, o2, c2, h5, h6, h7, h8⟩
          · rcases (hXs i hi').1 with ⟨-, h9⟩ | ⟨a3, g3, o3, c3, h9, -⟩
            · rw [h9]; rfl
            · injection h1 with h1
              rw [h1, h5] at h9
              injection h9 with _ h10 _
              omega
          · rcases h4 with h4 | ⟨es, sp, h4, h4'⟩
            · have hn := (hel i (by omega)).2
              rcases open_ints Try.underlying33 Try.underlying5 (by kernel_rfl) hn with ⟨h9, -⟩ | ⟨a9, l9, c9, z9, -, -, -, -, -, h10, -⟩
              · rcases (hXs i hi').1 with ⟨-, h11⟩ | ⟨a3, g3, o3, c3, h11, -⟩
                · rw [h11]; rfl
                · injection h9 with h9
                  rw [h9] at h11
                  injection h11 with _ h12 _
                  omega
              · have h10' := congrArg Prod.fst h10
                simp only at h10'
                rw [hd] at h10'
                cases h10'
            · simp only at h4
              rw [hd] at h4
              cases h4
        omega
      · have := hw ((es.length + sp.length) * 1) (by
          refine List.mem_cons_of_mem _ (List.mem_append_left _ (weights_mem_all (d := D i) (List.mem_map.2 ⟨i, hi, rfl⟩) ?_))
          rw [hd]
          simp [DataW.weights, Try.underlying33, bytes5])
        omega

theorem open_two {H : Type} {enc : TypeId × Value → H} {w : World} {base b2 : Nat} {spare : Nat → Bool} {held : Bool} {r} {v : Value} {d : DataW H} {ps : List MemPlace}
    (ho : Value.okWide Try.prog w r b2 40 v) (h : DataW.Trod enc Try.prog w base spare held 40 v d ps) (hw : ∀ n ∈ d.weights Try.prog 40, n ≤ reachBytes) :
    ∃ a b A B, v = .agg #[a, b] ∧ BB w a A ∧ BB w b B ∧ A.length ≤ 10000000000000 ∧ B.length ≤ 10000000000000 ∧ (∀ l ∈ A, l.length ≤ 1000000000000000) ∧ (∀ l ∈ B, l.length ≤ 1000000000000000) := by
  obtain ⟨cs, rfl⟩ : ∃ cs, v = .agg cs := by
    cases v <;> simp [Value.okWide, Try.underlying40] at ho
    exact ⟨_, rfl⟩
  obtain ⟨fuel, hf⟩ := h
  obtain ⟨xs, m, _, hd, hl, hx, hel⟩ := DataW.trod_array Try.underlying40 hf
  have hc40 : Try.prog.cellsOf 40 = 2 := by kernel_rfl
  have hc39 : Try.prog.cellsOf 39 = 1 := by kernel_rfl
  obtain ⟨l⟩ := cs
  simp only [Value.cells] at hl hel
  rw [hc40] at hl
  rw [hc39] at hel
  match l, hl with
  | [a, b], _ =>
    match xs, hx with
    | [x0, x1], _ =>
      have e0 := hel 0 (by omega)
      have e1 := hel 1 (by omega)
      simp at e0 e1
      simp only [Prod.mk.injEq, List.map_cons, List.map_nil] at hd
      rw [hd.1] at hw
      simp only [DataW.weights, Try.underlying40, DataW.weightsAll, List.append_nil] at hw
      obtain ⟨va, A, h1, h2, h3, h4⟩ := open_rows_at e0 fun n hn => hw n (List.mem_append_left _ hn)
      obtain ⟨vb, B, k1, k2, k3, k4⟩ := open_rows_at e1 fun n hn => hw n (List.mem_append_right _ hn)
      injection h1 with h1
      injection k1 with k1
      subst h1
      subst k1
      exact ⟨a, b, A, B, rfl, h2, k2, h3, k3, h4, k4⟩

theorem open_picks_at {H : Type} {enc : TypeId × Value → H} {w : World} {base fuel : Nat} {spare : Nat → Bool} {held : Bool} {cs : List Value} {x : DataW H × List MemPlace}
    (hf : DataW.trod enc Try.prog w base spare held fuel 34 cs = some x) : ∃ p len cap pk, cs = [.slice p len cap] ∧ PkIn w p len pk ∧ (x.1 = .nil ∧ len = 0 ∨ ∃ es sp, x.1 = .slice es sp ∧ es.length = len) := by
  rcases open_ints Try.underlying34 Try.underlying3 (by kernel_rfl) hf with ⟨hcs, hx⟩ | ⟨a, len, cap, zs, hcs, hb, hlc, hm, hzl, hx, hel, hw⟩
  · exact ⟨none, 0, 0, fun _ => 0, hcs, ⟨fun i hi => by omega, fun i _ => rfl, fun i => by show (-9223372036854775808 : Int) ≤ 0; omega, fun i => by show (0 : Int) ≤ 9223372036854775807; omega⟩, .inl ⟨by rw [hx], rfl⟩⟩
  · have hll : len ≤ zs.length := by rw [hzl]; split <;> omega
    have hbd : ∀ i, i < len → -9223372036854775808 ≤ zs.getD i 0 ∧ zs.getD i 0 ≤ 9223372036854775807 := fun i hi => by
      have : zs.getD i 0 ∈ zs := by rw [List.getD_eq_getElem?_getD, List.getElem?_eq_getElem (by omega)]; exact List.getElem_mem _
      exact bounds_i64 (hw _ this)
    refine ⟨some a, len, cap, fun i => if i < len then zs.getD i 0 else 0, hcs, ⟨fun i hi => ⟨a.block, a.off, ?_, ?_⟩, fun i hi => if_neg (by omega), fun i => ?_, fun i => ?_⟩, .inr ⟨_, _, by rw [hx], by simp [lits]; omega⟩⟩
    · exact congrArg some (addr_plain (hel 0 (by omega)))
    · have h1 := hel i (by omega)
      rw [addr_plain (hel 0 (by omega)), Addr.add_lit] at h1
      rw [h1]
      exact congrArg (fun z => some (Value.int .i64 z)) (if_pos hi).symm
    · by_cases h : i < len
      · simp only [if_pos h]; exact (hbd i h).1
      · simp only [if_neg h]; omega
    · by_cases h : i < len
      · simp only [if_pos h]; exact (hbd i h).2
      · simp only [if_neg h]; omega
theorem open_picks {H : Type} {enc : TypeId × Value → H} {w : World} {base b2 : Nat} {spare : Nat → Bool} {held : Bool} {r} {v : Value} {d : DataW H} {ps : List MemPlace}
    (ho : Value.okWide Try.prog w r b2 34 v) (h : DataW.Trod enc Try.prog w base spare held 34 v d ps) : ∃ p len cap pk, v = .slice p len cap ∧ PkIn w p len pk := by
  obtain ⟨p, len, cap, rfl⟩ := okWide_slice Try.underlying34 ho
  obtain ⟨fuel, hf⟩ := h
  obtain ⟨p2, l2, c2, pk, h1, h2, -⟩ := open_picks_at (cs := [.slice p len cap]) hf
  injection h1 with h1
  injection h1 with e1 e2 e3
  subst e1 e2 e3
  exact ⟨_, _, _, pk, rfl, h2⟩
end Go.Proofs.Ytfohemgfiidokaa
