/- The document's Same; a law's texts. -/
import Derived.Lib.ConvBytes
import Derived.Test.YtfohemgfiidokaaGreatDoorYt
namespace Go.Proofs.YtfohemgfiidokaaGreatDoor
open Go.RowKit Go.Sort

/-- bytes of a text, in a new block -/
def TextAt (B : Nat) (w' : World) (v : Value) (xs : List Int) : Prop := ∃ cap, v = .slice (some ⟨B, 0, none⟩) xs.length cap ∧ xs.length ≤ cap ∧ ∀ j, j < xs.length → w'.cell? ⟨B, j, none⟩ = some (.int .u8 (xs[j]?.getD 0))
theorem TextAt.rd {B : Nat} {w : World} {v : Value} {xs : List Int} (h : TextAt B w v xs) : RdB w v xs := by
  obtain ⟨cap, h1, h2, h3⟩ := h
  exact .inr ⟨_, B, 0, cap, h1, h2, fun _ => rfl, fun j hj => by rw [Nat.zero_add]; exact h3 j hj⟩
theorem TextAt.rds {B : Nat} {w : World} {v : Value} {xs : List Int} {ρ : Nat → Nat} (h : TextAt B w v xs) (hr : ρ B = 0) : RdS w ρ v xs := by
  obtain ⟨cap, h1, h2, h3⟩ := h
  exact .inr ⟨_, B, 0, cap, h1, h2, fun _ => ⟨rfl, hr⟩, fun j hj => by rw [Nat.zero_add]; exact h3 j hj⟩
theorem TextAt.keep {B : Nat} {w w' : World} {v : Value} {xs : List Int} (h : TextAt B w v xs) (hb : RowKit.Below w.heap.size w w') : TextAt B w' v xs := by
  obtain ⟨cap, h1, h2, h3⟩ := h
  exact ⟨cap, h1, h2, fun j hj => by rw [hb.cell (block_lt_of_cell (h3 j hj))]; exact h3 j hj⟩
theorem b_c (s : ByteArray) (w : World) :
    Calls Tryz.prog 15 #[.string s] w fun e w' => ∃ v, e = .returned v ∧ TextAt w.heap.size w' v (numsOf s) ∧ RowKit.Below w.heap.size w w' := by
  have hconv := Lib.run_convert_string_bytes (P := Tryz.prog) w 9 40 5 s Tryz.underlying9 Tryz.underlying40 Tryz.underlying5
  have hcell := fun j hj => Lib.bytesWorld_cell w 5 s j hj
  have hold := Lib.bytesWorld_at_old w 5 s
  have hsize := Lib.bytesWorld_size w 5 s
  have hbel : RowKit.Below w.heap.size w (Lib.bytesWorld w 5 s) := ⟨rfl, rfl, rfl, by omega, hold⟩
  have hge := grownCap_ge w s.size 0 5
  have HC := Lib.hid hcell; have HB := Lib.hid hbel; have HG := Lib.hid hge
  clear hcell hold hsize hbel hge
  generalize grownCap w s.size 0 5 = cap at *
  generalize Lib.bytesWorld w 5 s = W at *
  go_enter Tryz.func15, Tryz.ntmps15
  go_wp2
  go_ret
  refine ⟨_, rfl, ⟨cap, by rw [numsOf_len]; rfl, by rw [numsOf_len]; exact HG.out, fun j hj => ?_⟩, HB.out⟩
  rw [numsOf_len] at hj
  rw [HC.out j hj]
  have hj2 : j < s.data.toList.length := by rw [Array.length_toList]; exact hj
  simp only [numsOf, List.getElem?_map, List.getElem?_eq_getElem hj2, List.getD_eq_getElem?_getD]
  rfl

theorem getD_bytes {ls : List (List Int)} (h : ∀ r ∈ ls, Bytes r) (k : Nat) : Bytes (ls[k]?.getD []) := by
  by_cases hk : k < ls.length
  · rw [List.getElem?_eq_getElem hk]; exact h _ (List.getElem_mem hk)
  · rw [List.getElem?_eq_none (by omega)]; intro b hb; simp at hb

set_option maxRecDepth 100000 in
set_option maxHeartbeats 1600000 in
theorem same_c (v u : Value) (ls ms : List (List Int)) (w : World) (hv : RdL w v ls) (hu : RdL w u ms) (hl : ∀ r ∈ ls, Bytes r) (hm : ∀ r ∈ ms, Bytes r) (hn : ls.length ≤ 10000000) :
    Calls Tryz.prog 19 #[v, u] w fun e w' => e = .returned (.bool (decide (ls = ms))) ∧ RowKit.Below w.heap.size w w' := by
  have hvk := fun W (hb : RowKit.Below w.heap.size w W) => (hv.keep hb).shape
  have huk := fun W (hb : RowKit.Below w.heap.size w W) => (hu.keep hb).shape
  obtain ⟨a, ca, rfl, hca, -⟩ := hv.shape
  obtain ⟨c, cc, rfl, hcc, -⟩ := hu.shape
  have HV := Lib.hid (fun W (hb : RowKit.Below w.heap.size w W) => show ∀ j, j < ls.length → ∃ g o x, a = some ⟨g, o, none⟩ ∧ W.cell? ⟨g, o + j, none⟩ = some x ∧ RdB W x (ls[j]?.getD []) from by
    obtain ⟨a', cap', e, -, h⟩ := hvk W hb
    cases e; exact h)
  have HU := Lib.hid (fun W (hb : RowKit.Below w.heap.size w W) => show ∀ j, j < ms.length → ∃ g o x, c = some ⟨g, o, none⟩ ∧ W.cell? ⟨g, o + j, none⟩ = some x ∧ RdB W x (ms[j]?.getD []) from by
    obtain ⟨a', cap', e, -, h⟩ := huk W hb
    cases e; exact h)
  clear hvk huk hv hu
  by_cases hlen : ls.length = ms.length
  case neg =>
    have hq : ((ls.length : Int) == ms.length) = false := by rw [beq_eq_false_iff_ne]; omega
    have hd : decide (ls = ms) = false := decide_eq_false fun e => hlen (by rw [e])
    rw [hd]
    clear hd hlen
    go_enter Tryz.func19, Tryz.ntmps19
    go_wp2
    go_ret
    exact ⟨rfl, RowKit.Below.refl _ _⟩
  have hq : ((ls.length : Int) == ms.length) = true := by rw [beq_iff_eq]; omega
  have HL := Lib.hid hlen
  clear hlen
  go_enter Tryz.func19, Tryz.ntmps19
  go_upto_region 4 with fail
  go_loopw [5] (fun i wr => ∃ k : Nat, k ≤ ls.length ∧ i = .int .i64 k ∧ (∀ j, j < k → ls[j]?.getD [] = ms[j]?.getD []) ∧ RowKit.Below w.heap.size w wr) (fun i _ => ls.length - (intOf i).toNat)
  case atStart => exact ⟨0, by omega, rfl, fun j hj => by omega, RowKit.Below.refl _ _⟩
  case round =>
    obtain ⟨k, hk, rfl, hsm, hb⟩ := hrel
    have HS := Lib.hid hsm
    clear hsm
    by_cases hlt : k < ls.length
    · have hbd : RowKit.Below w.heap.size w wr.drew := hb.drew
      obtain ⟨g, o, x, rfl, hc, hrd⟩ := HV.out _ hbd k hlt
      have hlen := HL.out
      obtain ⟨g2, o2, y, rfl, hc2, hrd2⟩ := HU.out _ hbd k (by omega)
      have t1 := rd_text hrd
      have t2 := rd_text hrd2
      have hk1 : (k : Int) < ls.length := by omega
      have hk2 : (k : Int) < ms.length := by omega
      have hbq := str_beq _ _ (getD_bytes hl k) (getD_bytes hm k)
      obtain ⟨X, hX⟩ : ∃ X, ls[k]?.getD [] = X := ⟨_, rfl⟩
      obtain ⟨Y, hY⟩ : ∃ Y, ms[k]?.getD [] = Y := ⟨_, rfl⟩
      rw [hX] at t1 hbq
      rw [hY] at t2 hbq
      generalize strOfNums X = sa at *
      generalize strOfNums Y = sb at *
      have HX := Lib.hid hX; have HY := Lib.hid hY; have HB := Lib.hid hb
      clear hX hY hrd hrd2 hb hlen
      by_cases hxy : X = Y
      · obtain ⟨q1, q2⟩ := hbq true (by simp [hxy])
        have HXY := Lib.hid hxy
        clear hbq hxy
        go_upto_region 6 with fail
        go_region_held3 (fun W' => W'.cell? ⟨g, o + k, none⟩ = some x ∧ W'.cell? ⟨g2, o2 + k, none⟩ = some y ∧ (convert 40 9 x).run Tryz.prog W' = .ok (.string sa) W' ∧ (convert 40 9 y).run Tryz.prog W' = .ok (.string sb) W') (first | exact ⟨hc, hc2, t1, t2⟩ | fail) (fail)
        go_wp2
        exact ⟨⟨k + 1, by omega, by go_num, fun j hj => by
          by_cases e : j = k
          · subst e; rw [HX.out, HY.out, HXY.out]
          · exact HS.out j (by omega), HB.out.drew⟩, by simp [intOf]; omega⟩
      · obtain ⟨q1, q2⟩ := hbq false (by simp [hxy])
        have hd : decide (ls = ms) = false := decide_eq_false fun e => hxy (by rw [← HX.out, ← HY.out, e])
        have HD := Lib.hid hd
        clear hbq hxy hd
        go_upto_region 6 with fail
        go_region_held3 (fun W' => W'.cell? ⟨g, o + k, none⟩ = some x ∧ W'.cell? ⟨g2, o2 + k, none⟩ = some y ∧ (convert 40 9 x).run Tryz.prog W' = .ok (.string sa) W' ∧ (convert 40 9 y).run Tryz.prog W' = .ok (.string sb) W') (first | exact ⟨hc, hc2, t1, t2⟩ | fail) (fail)
        go_wp2
        go_ret
        exact ⟨by rw [HD.out]; rfl, HB.out.drew⟩
    · have hkk : k = ls.length := by omega
      have hkl : ¬ (k : Int) < ls.length := by omega
      have hd : decide (ls = ms) = true := decide_eq_true (List.ext_getElem? fun j => by
        by_cases hj : j < ls.length
        · have h1 := HS.out j (by omega)
          have h2 := HL.out
          rw [List.getElem?_eq_getElem hj, List.getElem?_eq_getElem (by omega)] at h1 ⊢
          exact congrArg some h1
        · have h2 := HL.out
          rw [List.getElem?_eq_none (by omega), List.getElem?_eq_none (by omega)])
      have HD := Lib.hid hd
      clear hd
      go_wp2
      go_ret
      exact ⟨by rw [HD.out]; rfl, hb⟩
end Go.Proofs.YtfohemgfiidokaaGreatDoor
