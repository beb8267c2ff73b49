/- May that be found? -/
import Derived.Test.YtfohemgfiidokaaDoorPg
namespace Go.Proofs.YtfohemgfiidokaaDoor
open Go.RowKit Go.Sort

/-- a part of a list of records -/
theorem RdL.part {w : World} {p : Option Addr} {n cap : Nat} {ls : List (List Int)} (h : RdL w (.slice p n cap) ls) (k : Nat) (hk : k ≤ ls.length) : RdL w (.slice p k cap) (ls.take k) := by
  rcases h with ⟨h1, rfl⟩ | ⟨a, g, o, cp, h1, h2, h3, h4⟩
  · injection h1 with e1 e2 e3
    subst e1 e3
    have : k = 0 := by simpa using hk
    subst this
    exact .inl ⟨rfl, rfl⟩
  · injection h1 with e1 e2 e3
    subst e1 e2 e3
    have hl : (ls.take k).length = k := by rw [List.length_take]; omega
    refine .inr ⟨a, g, o, cap, by rw [hl], by rw [hl]; omega, fun h => h3 (by rw [hl] at h; omega), fun j hj => ?_⟩
    rw [hl] at hj
    obtain ⟨u, q1, q2⟩ := h4 j (by omega)
    exact ⟨u, q1, by rw [List.getElem?_take_of_lt hj]; exact q2⟩
/-- the records behind the first k -/
theorem RdL.rest {w : World} {p : Option Addr} {n cap : Nat} {ls : List (List Int)} (h : RdL w (.slice p n cap) ls) (k : Nat) (hk : k ≤ ls.length) :
    RdL w (.slice (if cap = k then p else p.map (·.add k)) (ls.length - k) (cap - k)) (ls.drop k) := by
  have hl : (ls.drop k).length = ls.length - k := List.length_drop
  rcases h with ⟨h1, rfl⟩ | ⟨a, g, o, cp, h1, h2, h3, h4⟩
  · injection h1 with e1 e2 e3
    subst e1 e3
    have : k = 0 := by simpa using hk
    subst this
    exact .inl ⟨rfl, rfl⟩
  · injection h1 with e1 e2 e3
    subst e1 e2 e3
    by_cases hc : cap = k
    · rw [if_pos hc]
      exact .inr ⟨a, g, o, cap - k, by rw [hl], by rw [hl]; omega, fun h => by rw [hl] at h; omega, fun j hj => by rw [hl] at hj; omega⟩
    · rw [if_neg hc]
      refine .inr ⟨a.add k, g, o + k, cap - k, by rw [hl]; rfl, by rw [hl]; omega, fun h => by rw [hl] at h; rw [h3 (by omega)]; simp [Addr.add], fun j hj => ?_⟩
      rw [hl] at hj
      obtain ⟨u, q1, q2⟩ := h4 (k + j) (by omega)
      refine ⟨u, by rw [Nat.add_assoc]; exact q1, ?_⟩
      rw [List.getElem?_drop]; exact q2
theorem box_cells {w : World} {a b c d : Value} {t : TypeId} {W : World} (h : Below (w.alloc (.cells #[a, b, c, d] t)).heap.size (w.alloc (.cells #[a, b, c, d] t)) W) : W.cell? ⟨w.heap.size, 0, none⟩ = some a ∧ W.cell? ⟨w.heap.size, 1, none⟩ = some b ∧ W.cell? ⟨w.heap.size, 2, none⟩ = some c := by
  have hb := (h.block w.heap.size (by simp)).trans (heap_alloc_new w (.cells #[a, b, c, d] t))
  exact ⟨cell_of_row _ _ 0 _ _ _ hb, cell_of_row _ _ 1 _ _ _ hb, cell_of_row _ _ 2 _ _ _ hb⟩
set_option maxRecDepth 100000 in
set_option maxHeartbeats 1600000 in
theorem found_c (p : Past) (ls : List (List Int)) (va vb vc v : Value) (w : World) (ha : RdL w va p.all) (hb : RdL w vb p.more) (hc : RdL w vc p.next) (hv : RdL w v ls) (qa : ∀ r ∈ p.all, Bytes r) (qb : ∀ r ∈ p.more, Bytes r) (qc : ∀ r ∈ p.next, Bytes r) (qv : ∀ r ∈ ls, Bytes r)
    (la : p.all.length ≤ 1000000) (lb : p.more.length ≤ 1000000) (lv : ls.length ≤ 1000000) (hF : p.found ls) :
    Calls Tryd.prog 17 #[.agg #[va, vb, vc, .bool p.other], v] w fun e w' => e = .returned (.bool true) ∧ Below w.heap.size w w' := by
  obtain ⟨pa, ca, rfl, hca, -⟩ := ha.shape
  obtain ⟨pb, cb, rfl, hcb, -⟩ := hb.shape
  obtain ⟨pc, cc, rfl, hcc, -⟩ := hc.shape
  obtain ⟨pv, cv, rfl, hcv, -⟩ := hv.shape
  have b0 := Lib.hid (fun b : Bool => bel_alloc (Below.refl w.heap.size w) (.cells #[.slice pa p.all.length ca, .slice pb p.more.length cb, .slice pc p.next.length cc, .bool b] 34))
  have yes : ls = p.next → Calls Tryd.prog 17 #[.agg #[.slice pa p.all.length ca, .slice pb p.more.length cb, .slice pc p.next.length cc, .bool true], .slice pv ls.length cv] w fun e w' => e = .returned (.bool true) ∧ Below w.heap.size w w' := fun h2 => by
    have HS := Lib.hid (fun W (hb : Below w.heap.size w W) => show Calls Tryd.prog 19 #[.slice pv ls.length cv, .slice pc p.next.length cc] W fun e w' => e = .returned (.bool true) ∧ Below W.heap.size W w' by
      have := same_c _ _ ls p.next W (hv.keep hb) (hc.keep hb) qv qc (by omega)
      rwa [decide_eq_true h2] at this)
    clear h2
    go_enter Tryd.func17, Tryd.ntmps17
    go_wp2_with (go_at_call 19; (with_reducible refine (HS.out _ (b0.out true)).mono ?_); rintro e w2 ⟨rfl, b2⟩; have b3 := bel_call (b0.out true) b2)
    go_ret
    exact ⟨rfl, b3⟩
  rcases (p.found_iff ls).1 hF with ⟨h1, h2⟩ | ⟨h1, h2, h3, h4⟩
  · rw [h1]
    exact yes h2
  · have g0 : (0 : Int) ≤ (ls.length : Int) - p.all.length := by omega
    have g1 : (ls.length : Int) - p.all.length ≤ p.more.length := by omega
    have g2 : IntKind.i64.wrap ((ls.length : Int) - p.all.length) = (ls.length : Int) - p.all.length := by rw [IntKind.wrap_i64]; omega
    have g3 : (p.all.length : Int) ≤ ls.length := by omega
    have g4 : (p.all.length : Int) ≤ cv := by omega
    have g5 : (ls.length : Int) - p.all.length ≤ cb := by omega
    have g6 : ((ls.length : Int) - p.all.length).toNat = ls.length - p.all.length := by omega
    have H1 := Lib.hid (fun W (hb : Below w.heap.size w W) => show Calls Tryd.prog 19 #[.slice pv p.all.length cv, .slice pa p.all.length ca] W fun e w' => e = .returned (.bool true) ∧ Below W.heap.size W w' by
      have := same_c _ _ (ls.take p.all.length) p.all W ((hv.part p.all.length (by omega)).keep hb) (ha.keep hb) (fun r hr => qv r (List.mem_of_mem_take hr)) qa (by rw [List.length_take]; omega)
      rwa [decide_eq_true h3] at this)
    have H2 := Lib.hid (fun W (h : Below w.heap.size w W) => show Calls Tryd.prog 19 #[.slice (if cv = p.all.length then pv else pv.map (·.add p.all.length)) (ls.length - p.all.length) (cv - p.all.length), .slice pb (ls.length - p.all.length) cb] W fun e w' => e = .returned (.bool true) ∧ Below W.heap.size W w' by
      have := same_c _ _ (ls.drop p.all.length) (p.more.take (ls.length - p.all.length)) W ((hv.rest p.all.length h1).keep h) ((hb.part (ls.length - p.all.length) h2).keep h) (fun r hr => qv r (List.mem_of_mem_drop hr)) (fun r hr => qb r (List.mem_of_mem_take hr)) (by rw [List.length_drop]; omega)
      rwa [decide_eq_true h4] at this)
    clear h3 h4 hF
    generalize p.all.length = na at *
    generalize p.more.length = nb at *
    have HBX := Lib.hid (fun b W => box_cells (w := w) (a := .slice pa na ca) (b := .slice pb nb cb) (c := .slice pc p.next.length cc) (d := .bool b) (t := 34) (W := W))
    by_cases hcn : cv = na
    · obtain rfl : na = cv := hcn.symm
      have hz : ls.length - na = 0 := by omega
      have H9 := Lib.hid (fun W (h : Below w.heap.size w W) => show Calls Tryd.prog 19 #[.slice pv 0 0, .slice pb 0 cb] W fun e w' => e = .returned (.bool true) ∧ Below W.heap.size W w' by have := H2.out W h; rwa [if_pos rfl, hz, Nat.sub_self] at this)
      clear H2
      cases hot : p.other with
      | true =>
        by_cases hnx : ls = p.next
        · exact yes hnx
        · have HS := Lib.hid (fun W (hb : Below w.heap.size w W) => show Calls Tryd.prog 19 #[.slice pv ls.length na, .slice pc p.next.length cc] W fun e w' => e = .returned (.bool false) ∧ Below W.heap.size W w' by
            have := same_c _ _ ls p.next W (hv.keep hb) (hc.keep hb) qv qc (by omega)
            rwa [decide_eq_false hnx] at this)
          clear hnx yes hot
          go_enter Tryd.func17, Tryd.ntmps17
          go_upto_region 4 with (go_at_call 19; (with_reducible refine (HS.out _ (b0.out true)).mono ?_); rintro e w2 ⟨rfl, b2⟩; have b3 := bel_call (b0.out true) b2; obtain ⟨c0, c1, c2⟩ := HBX.out true w2 b2)
          have b3 := b3.drew
          go_region_held3 (fun W => W.cell? ⟨w.heap.size, 0, none⟩ = some (.slice pa na ca) ∧ W.cell? ⟨w.heap.size, 1, none⟩ = some (.slice pb nb cb)) (first | exact ⟨k0, k1⟩ | exact ⟨d0, d1⟩ | exact ⟨c0, c1⟩ | fail) (first
            | (go_at_call 19; (with_reducible refine (H1.out _ b3).mono ?_); rintro e w3 ⟨rfl, b4⟩; have b5 := bel_call b3 b4; have d0 := (b4.cell (block_lt_of_cell c0)).trans c0; have d1 := (b4.cell (block_lt_of_cell c1)).trans c1)
            | (go_at_call 19; (with_reducible refine (H9.out _ b5).mono ?_); rintro e w4 ⟨rfl, b6⟩; have b7 := bel_call b5 b6; have k0 := (b6.cell (block_lt_of_cell d0)).trans d0; have k1 := (b6.cell (block_lt_of_cell d1)).trans d1) | fail)
          go_wp2
          go_ret
          exact ⟨rfl, b7⟩
      | false =>
        clear yes hot
        go_enter Tryd.func17, Tryd.ntmps17
        go_upto_region 4 with fail
        have b3 := (b0.out false).drew
        obtain ⟨c0, c1, c2⟩ := HBX.out false _ (Below.refl _ _)
        go_region_held3 (fun W => W.cell? ⟨w.heap.size, 0, none⟩ = some (.slice pa na ca) ∧ W.cell? ⟨w.heap.size, 1, none⟩ = some (.slice pb nb cb)) (first | exact ⟨k0, k1⟩ | exact ⟨d0, d1⟩ | exact ⟨c0, c1⟩ | fail) (first
          | (go_at_call 19; (with_reducible refine (H1.out _ b3).mono ?_); rintro e w3 ⟨rfl, b4⟩; have b5 := bel_call b3 b4; have d0 := (b4.cell (block_lt_of_cell c0)).trans c0; have d1 := (b4.cell (block_lt_of_cell c1)).trans c1)
          | (go_at_call 19; (with_reducible refine (H9.out _ b5).mono ?_); rintro e w4 ⟨rfl, b6⟩; have b7 := bel_call b5 b6; have k0 := (b6.cell (block_lt_of_cell d0)).trans d0; have k1 := (b6.cell (block_lt_of_cell d1)).trans d1) | fail)
        go_wp2
        go_ret
        exact ⟨rfl, b7⟩
    · have H9 := Lib.hid (fun W (h : Below w.heap.size w W) => show Calls Tryd.prog 19 #[.slice (pv.map (·.add na)) (ls.length - na) (cv - na), .slice pb (ls.length - na) cb] W fun e w' => e = .returned (.bool true) ∧ Below W.heap.size W w' by have := H2.out W h; rwa [if_neg hcn] at this)
      clear H2
      cases hot : p.other with
      | true =>
        by_cases hnx : ls = p.next
        · exact yes hnx
        · have HS := Lib.hid (fun W (hb : Below w.heap.size w W) => show Calls Tryd.prog 19 #[.slice pv ls.length cv, .slice pc p.next.length cc] W fun e w' => e = .returned (.bool false) ∧ Below W.heap.size W w' by
            have := same_c _ _ ls p.next W (hv.keep hb) (hc.keep hb) qv qc (by omega)
            rwa [decide_eq_false hnx] at this)
          clear hnx yes hot
          go_enter Tryd.func17, Tryd.ntmps17
          go_upto_region 4 with (go_at_call 19; (with_reducible refine (HS.out _ (b0.out true)).mono ?_); rintro e w2 ⟨rfl, b2⟩; have b3 := bel_call (b0.out true) b2; obtain ⟨c0, c1, c2⟩ := HBX.out true w2 b2)
          have b3 := b3.drew
          go_region_held3 (fun W => W.cell? ⟨w.heap.size, 0, none⟩ = some (.slice pa na ca) ∧ W.cell? ⟨w.heap.size, 1, none⟩ = some (.slice pb nb cb)) (first | exact ⟨k0, k1⟩ | exact ⟨d0, d1⟩ | exact ⟨c0, c1⟩ | fail) (first
            | (go_at_call 19; (with_reducible refine (H1.out _ b3).mono ?_); rintro e w3 ⟨rfl, b4⟩; have b5 := bel_call b3 b4; have d0 := (b4.cell (block_lt_of_cell c0)).trans c0; have d1 := (b4.cell (block_lt_of_cell c1)).trans c1)
            | (go_at_call 19; (with_reducible refine (H9.out _ b5).mono ?_); rintro e w4 ⟨rfl, b6⟩; have b7 := bel_call b5 b6; have k0 := (b6.cell (block_lt_of_cell d0)).trans d0; have k1 := (b6.cell (block_lt_of_cell d1)).trans d1) | fail)
          go_wp2
          go_ret
          exact ⟨rfl, b7⟩
      | false =>
        clear yes hot
        go_enter Tryd.func17, Tryd.ntmps17
        go_upto_region 4 with fail
        have b3 := (b0.out false).drew
        obtain ⟨c0, c1, c2⟩ := HBX.out false _ (Below.refl _ _)
        go_region_held3 (fun W => W.cell? ⟨w.heap.size, 0, none⟩ = some (.slice pa na ca) ∧ W.cell? ⟨w.heap.size, 1, none⟩ = some (.slice pb nb cb)) (first | exact ⟨k0, k1⟩ | exact ⟨d0, d1⟩ | exact ⟨c0, c1⟩ | fail) (first
          | (go_at_call 19; (with_reducible refine (H1.out _ b3).mono ?_); rintro e w3 ⟨rfl, b4⟩; have b5 := bel_call b3 b4; have d0 := (b4.cell (block_lt_of_cell c0)).trans c0; have d1 := (b4.cell (block_lt_of_cell c1)).trans c1)
          | (go_at_call 19; (with_reducible refine (H9.out _ b5).mono ?_); rintro e w4 ⟨rfl, b6⟩; have b7 := bel_call b5 b6; have k0 := (b6.cell (block_lt_of_cell d0)).trans d0; have k1 := (b6.cell (block_lt_of_cell d1)).trans d1) | fail)
        go_wp2
        go_ret
        exact ⟨rfl, b7⟩
end Go.Proofs.YtfohemgfiidokaaDoor
