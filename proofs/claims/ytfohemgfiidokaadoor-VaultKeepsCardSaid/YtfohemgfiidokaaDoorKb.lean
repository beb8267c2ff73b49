/- Whether a list of steps is heavy; may that be found? -/
import Derived.Test.YtfohemgfiidokaaDoorKa
import Derived.Test.YtfohemgfiidokaaDoorPg
namespace Go.Proofs.YtfohemgfiidokaaDoor
open Go.RowKit Go.Sort

def rowsT : List (List Int) → Nat
  | [] => 0
  | r :: t => 16 + r.length + rowsT t
def stepT (s : StepV) : Nat := 32 + s.B.length + s.pl + rowsT s.L
def totV : List StepV → Nat
  | [] => 0
  | s :: t => stepT s + totV t
theorem rowsT_app : ∀ l m : List (List Int), rowsT (l ++ m) = rowsT l + rowsT m
  | [], m => by simp [rowsT]
  | a :: t, m => by rw [List.cons_append, rowsT, rowsT, rowsT_app t]; omega
theorem totV_app : ∀ l m : List StepV, totV (l ++ m) = totV l + totV m
  | [], m => by simp [totV]
  | a :: t, m => by rw [List.cons_append, totV, totV, totV_app t]; omega
theorem rowsT_next (ls : List (List Int)) (q : Nat) (h : q < ls.length) : rowsT (ls.take (q + 1)) = rowsT (ls.take q) + (16 + (ls[q]?.getD []).length) := by
  rw [show ls.take (q + 1) = ls.take q ++ [ls[q]?.getD []] by rw [List.take_succ_eq_append_getElem h, List.getElem?_eq_getElem h]; rfl, rowsT_app]
  rfl
theorem totV_next (L : List StepV) (q : Nat) (h : q < L.length) : totV (L.take (q + 1)) = totV (L.take q) + stepT L[q] := by
  rw [List.take_succ_eq_append_getElem h, totV_app]
  rfl
theorem totV_take (L : List StepV) (q : Nat) : totV (L.take q) ≤ totV L := by
  have := totV_app (L.take q) (L.drop q)
  rw [List.take_append_drop] at this
  omega
set_option maxRecDepth 100000 in
set_option maxHeartbeats 1600000 in
theorem heavy_c (p : Option Addr) (cap : Nat) (L : List StepV) (w : World) (hs : StepsIn w p L) (hl : L.length ≤ 10000000000000) :
    Calls Tryd.prog 8 #[.slice p L.length cap] w fun e w' => ∃ b, e = .returned (.bool b) ∧ (b = false → totV L ≤ 16384) ∧ RowKit.Below w.heap.size w w' := by
  have HS := Lib.hid hs
  clear hs
  go_enter Tryd.func8, Tryd.ntmps8
  go_upto_region 3 with fail
  go_loopw [3, 4, 5] (fun nv iv kv wr => ∃ k n : Nat, k ≤ L.length ∧ iv = .int .i64 k ∧ nv = .int .i64 n ∧ n ≤ 3000000000000000 ∧ (n ≤ 16384 → totV (L.take k) ≤ n) ∧ RowKit.Below w.heap.size w wr) (fun _ i _ _ => L.length - (intOf i).toNat)
  case atStart => exact ⟨0, 0, by omega, rfl, rfl, by omega, fun _ => Nat.le_refl _, RowKit.Below.refl _ _⟩
  case round =>
    obtain ⟨k, n, hk, rfl, rfl, hn, hv, hb⟩ := hrel
    have HV := Lib.hid hv
    have HB := Lib.hid hb
    clear hv hb
    by_cases hbig : 16384 < n
    · have hd1 : decide ((16384 : Int) < (n : Int)) = true := decide_eq_true (by omega)
      have hd2 : decide ((n : Int) ≤ 16384) = false := decide_eq_false (by omega)
      clear hbig
      by_cases hlt : k < L.length
      · go_wp2
        go_ret
        exact ⟨true, rfl, (fun h => by cases h), HB.out⟩
      · obtain rfl : k = L.length := by omega
        go_wp2
        go_ret
        exact ⟨true, rfl, (fun h => by cases h), HB.out⟩
    · have hd1 : decide ((16384 : Int) < (n : Int)) = false := decide_eq_false (by omega)
      have hd2 : decide ((n : Int) ≤ 16384) = true := decide_eq_true (by omega)
      by_cases hlt : k < L.length
      · have hnx := totV_next L k hlt
        obtain ⟨g, o, rfl, hc, hok⟩ := HS.out k hlt
        have hst : stepT L[k] = 32 + L[k].B.length + L[k].pl + rowsT L[k].L := rfl
        have hvk := HV.out (by omega)
        generalize hs0 : L[k] = s at *
        obtain ⟨a, lv, Ls, da, F, N, bv, B, pp, pl, pc, pk⟩ := s
        have hlv : RdL w lv Ls := hok.l
        have hbv : RdB w bv B := hok.b
        obtain ⟨pb, cb, rfl, -⟩ := hbv.shape
        obtain ⟨pr, cr, rfl, hcr, -⟩ := hlv.shape
        have HC := Lib.hid (fun W (h : RowKit.Below w.heap.size w W) => hc.keep h)
        have HL := Lib.hid (fun W (h : RowKit.Below w.heap.size w W) => (hlv.keep h).shape)
        have hbl : B.length ≤ 1000000000000000 := hok.bl
        have hpz : pl ≤ 1000000000000000 := hok.pz
        have hll : Ls.length ≤ 10000000000000 := hok.ll
        have HR := Lib.hid (show ∀ r ∈ Ls, r.length ≤ 1000000000000000 from hok.lr)
        simp only at hst
        have HN := Lib.hid hnx
        have HT := Lib.hid hst
        clear hc hok hlv hbv hs0 hnx hst
        obtain ⟨c0, c1, c2, c3, c4, c5, c6⟩ := HC.out wr HB.out
        simp only at c1 c5 c6
        clear c0 c2 c3 c4
        have g0 : IntKind.i64.wrap ((n : Int) + 32) = (n : Int) + 32 := by rw [IntKind.wrap_i64]; omega
        have g1 : IntKind.i64.wrap ((n : Int) + 32 + (B.length : Int)) = (n : Int) + 32 + (B.length : Int) := by rw [IntKind.wrap_i64]; omega
        have g2 : IntKind.i64.wrap ((n : Int) + 32 + (B.length : Int) + (pl : Int)) = (n : Int) + 32 + (B.length : Int) + (pl : Int) := by rw [IntKind.wrap_i64]; omega
        go_wp2_with fail
        go_quiet (fail)
        clear g0 g1 g2
        go_upto_region 7 with fail
        have HB2 := Lib.hid (bel_call HB.out (below_drewN wr nq))
        clear c1 c5 c6
        have hn3 : n + 32 + B.length + pl ≤ 3000000000000000 := by omega
        go_loopw [3, 5] (fun nv jv W => ∃ j n2 : Nat, j ≤ Ls.length ∧ jv = .int .i64 j ∧ nv = .int .i64 n2 ∧ n2 ≤ 3000000000000000 ∧ (n2 ≤ 16384 → totV (L.take k) + (32 + B.length + pl) + rowsT (Ls.take j) ≤ n2) ∧ RowKit.Below w.heap.size w W) (fun _ j _ => Ls.length - (intOf j).toNat)
        case atStart => exact ⟨0, n + 32 + B.length + pl, by omega, rfl, by go_num, hn3, fun _ => by show totV (L.take k) + (32 + B.length + pl) + 0 ≤ _; omega, HB2.out⟩
        case round =>
          clear HB2
          obtain ⟨j, n2, hj, rfl, rfl, hn2, hv2, hb2⟩ := hrel
          have HV2 := Lib.hid hv2
          have HB2 := Lib.hid hb2
          obtain ⟨c0, c1, c2, c3, c4, c5, c6⟩ := HC.out _ hb2
          simp only at c1
          clear c0 c2 c3 c4 c5 c6 hv2 hb2
          by_cases hbig2 : 16384 < n2
          · have hd3 : decide ((n2 : Int) ≤ 16384) = false := decide_eq_false (by omega)
            have hrel : ∃ k2 n3 : Nat, k2 ≤ L.length ∧ Value.int .i64 ((k : Int) + 1) = .int .i64 k2 ∧ Value.int .i64 (n2 : Int) = .int .i64 n3 ∧ n3 ≤ 3000000000000000 ∧ (n3 ≤ 16384 → totV (L.take k2) ≤ n3) := ⟨k + 1, n2, by omega, by go_num, rfl, hn2, fun h => by omega⟩
            have HRel := Lib.hid hrel
            clear hbig2 hrel
            by_cases hlt2 : j < Ls.length
            · go_wp2
              obtain ⟨k2, n3, e1, e2, e3, e4, e5⟩ := HRel.out
              exact ⟨⟨k2, n3, e1, e2, e3, e4, e5, HB2.out⟩, by simp [intOf]; omega⟩
            · obtain rfl : j = Ls.length := by omega
              go_wp2
              obtain ⟨k2, n3, e1, e2, e3, e4, e5⟩ := HRel.out
              exact ⟨⟨k2, n3, e1, e2, e3, e4, e5, HB2.out⟩, by simp [intOf]; omega⟩
          · have hd3 : decide ((n2 : Int) ≤ 16384) = true := decide_eq_true (by omega)
            by_cases hlt2 : j < Ls.length
            · obtain ⟨a2, cp2, e2, -, hel⟩ := HL.out _ HB2.out
              injection e2 with e2 e3 e4
              subst e2 e4
              obtain ⟨g2, o2, u, rfl, hcell, hrd⟩ := hel j hlt2
              obtain ⟨a', c', rfl, hc'⟩ := hrd.shape
              have hnx2 := rowsT_next Ls j hlt2
              have hrl : (Ls[j]?.getD []).length ≤ 1000000000000000 := HR.out _ (by rw [List.getElem?_eq_getElem hlt2]; exact List.getElem_mem _)
              have hw1 : IntKind.i64.wrap ((n2 : Int) + 16) = (n2 : Int) + 16 := by rw [IntKind.wrap_i64]; omega
              have hw2 : IntKind.i64.wrap ((n2 : Int) + 16 + ((Ls[j]?.getD []).length : Int)) = (n2 : Int) + 16 + ((Ls[j]?.getD []).length : Int) := by rw [IntKind.wrap_i64]; omega
              have hv3 := HV2.out (by omega)
              have hrel : ∃ j2 n3 : Nat, j2 ≤ Ls.length ∧ Value.int .i64 ((j : Int) + 1) = .int .i64 j2 ∧ Value.int .i64 ((n2 : Int) + 16 + ((Ls[j]?.getD []).length : Int)) = .int .i64 n3 ∧ n3 ≤ 3000000000000000 ∧ (n3 ≤ 16384 → totV (L.take k) + (32 + B.length + pl) + rowsT (Ls.take j2) ≤ n3) := ⟨j + 1, n2 + 16 + (Ls[j]?.getD []).length, by omega, by go_num, by go_num, by omega, fun h => by omega⟩
              have HRel := Lib.hid hrel
              clear hrel hnx2 hv3
              generalize Ls[j]?.getD [] = r at *
              go_wp2
              obtain ⟨k2, n3, e1, e2, e3, e4, e5⟩ := HRel.out
              exact ⟨⟨k2, n3, e1, e2, e3, e4, e5, HB2.out⟩, by simp [intOf]; omega⟩
            · obtain rfl : j = Ls.length := by omega
              have hv3 := HV2.out (by omega)
              rw [List.take_length] at hv3
              have hnx3 := HN.out
              have hst3 := HT.out
              have hrel : ∃ k2 n3 : Nat, k2 ≤ L.length ∧ Value.int .i64 ((k : Int) + 1) = .int .i64 k2 ∧ Value.int .i64 (n2 : Int) = .int .i64 n3 ∧ n3 ≤ 3000000000000000 ∧ (n3 ≤ 16384 → totV (L.take k2) ≤ n3) := ⟨k + 1, n2, by omega, by go_num, rfl, hn2, fun h => by omega⟩
              have HRel := Lib.hid hrel
              clear hrel hnx3 hst3 hv3
              go_wp2
              obtain ⟨k2, n3, e1, e2, e3, e4, e5⟩ := HRel.out
              exact ⟨⟨k2, n3, e1, e2, e3, e4, e5, HB2.out⟩, by simp [intOf]; omega⟩
      · obtain rfl : k = L.length := by omega
        have hvk := HV.out (by omega)
        rw [List.take_length] at hvk
        go_wp2
        go_ret
        exact ⟨false, rfl, fun _ => by omega, HB.out⟩
end Go.Proofs.YtfohemgfiidokaaDoor
