/- Rows of bytes; bytes.Clone; the methods of a write and of a cut. What a file keeps: the walk of (*file).kept. (*file).stands, settle; (*Disk).may, New, Off, Fuse of cells. (*Disk).Room, Read; what no disk answers. A disk in memory: each block has a role (0: only read; 1: the disk; 2, 3: the row of the loose changes of file 0, 1), so that no two of them are one. (*Disk).Read, Room, Off, Fuse, New of a disk in memory. -/
import Derived.Test.YtfohemgfiidokaaGreatDoorBa
import Derived.WalkKit
import Derived.WalkSpells
import Derived.WalkLawsBesides
import Derived.Outline
import Derived.Lib.Hide
import Derived.Lib.SliceRun
import Derived.Sort.Grow
import Derived.Below
import Derived.Deep.Cut
import Derived.Deep.RegionWith
namespace Go.Proofs.YtfohemgfiidokaaGreatDoor
open Go.RowKit Go.Sort




set_option maxRecDepth 100000 in
theorem clone_c (v : Value) (xs : List Int) (w : World) (h : RdB w v xs) (hl : xs.length ≤ 1000000000) :
    Calls Tryz.prog 83 #[v] w fun e w' => ∃ v', e = .returned v' ∧ RowO w' w.heap.size v' xs ∧ Below w.heap.size w w' := by
  obtain ⟨i0, hi, hz0, hz1, hz2⟩ := info_parts Tryz.info5
  have qT : ∀ (w : World) (a : Option Addr) (n c n' c' : Nat), (binOp .eql 40 (.slice a n c) (.slice none n' c')).run Tryz.prog w = .ok (.bool a.isNone) w := fun w a n c n' c' => Lib.run_eql_slice_nil w 40 5 a n c n' c' Tryz.underlying40
  rcases h with ⟨rfl, rfl⟩ | ⟨a, g, o, cap, rfl, hc, ha, hcell⟩
  · go_enter Tryz.func83, Tryz.ntmps83
    go_wp2
    go_ret
    exact ⟨_, rfl, World.ownsRow_nil _ _ _ _, Below.refl _ _⟩
  · have hown0 : (w.alloc (.cells #[] 5)).ownsRow w.heap.size 5 1 (.slice (some ⟨w.heap.size, 0, none⟩) 0 0) 0 [] := ⟨rfl, .inr ⟨_, 0, #[], rfl, Nat.le_refl _, heap_alloc_new _ _, Nat.le_refl _, by unfold maxLen; omega, rfl, rfl⟩⟩
    have hnew := rd_cell (w := w.alloc (.cells #[] 5)) (xs := xs) ha (fun j hj => by rw [(bel_alloc (Below.refl _ w) _).cell (block_lt_of_cell (hcell j hj))]; exact hcell j hj) xs.length
    rw [List.take_length] at hnew
    have HN := Lib.hid hnew
    clear hnew hcell ha
    go_enter Tryz.func83, Tryz.ntmps83
    go_wp2_with (at_builtin; refine wpList_append_own _ rfl _ _ 40 rfl w.heap.size 5 i0 (.int .u8 0) 1 1 Tryz.underlying40 hi hz0 hz1 hz2 rfl (by decide) _ _ _ rfl hown0 a xs.length cap (u8s xs) rfl (by simp [u8s]) HN.out (u8s_one xs) ?c3 ?c4 ?c5 ?_)
    case c3 => unfold maxLen; omega
    case c4 => omega
    try case c5 => simp
    intro v' w1 hown' hgrow hnn
    have hb0 := grown_below hown0 (bel_alloc (Below.refl _ w) _) (by simp) hgrow
    clear hgrow hown0 hnn
    go_wp2
    go_ret
    exact ⟨_, rfl, hown', hb0⟩

set_option maxRecDepth 100000 in
theorem wunits_c (cv : Value) (c : List Int) (w0 w : World) (h : RdB w0 cv c) :
    Calls Tryz.prog 132 #[.agg #[cv]] w fun e w' => e = .returned (.int .i64 c.length) ∧ Below w.heap.size w w' := by
  rcases h with ⟨rfl, rfl⟩ | ⟨a, g, o, cap, rfl, hc, ha, hcell⟩
  · go_enter Tryz.func132, Tryz.ntmps132
    go_wp2
    go_ret
    exact ⟨rfl, bel_alloc (Below.refl _ _) _⟩
  · clear ha hcell
    go_enter Tryz.func132, Tryz.ntmps132
    go_wp2
    go_ret
    exact ⟨rfl, bel_alloc (Below.refl _ _) _⟩
theorem cunits_c (n : Int) (w : World) :
    Calls Tryz.prog 134 #[.agg #[.int .i64 n]] w fun e w' => e = .returned (.int .i64 1) ∧ Below w.heap.size w w' := by
  go_enter Tryz.func134, Tryz.ntmps134
  go_wp2
  go_ret
  exact ⟨rfl, bel_alloc (Below.refl _ _) _⟩

set_option maxRecDepth 100000 in
theorem wdone_c (cv bv : Value) (c b : List Int) (B : Nat) (n : Int) (w : World) (h : RdB w cv c) (hb : RowO w B bv b) (hB : B ≤ w.heap.size) (hn : 0 ≤ n) (hl : b.length + c.length ≤ 1000000000) :
    Calls Tryz.prog 131 #[.agg #[cv], bv, .int .i64 n] w fun e w' => ∃ v', e = .returned v' ∧ RowO w' B v' (b ++ c.take n.toNat) ∧ Below B w w' := by
  obtain ⟨i0, hi, hz0, hz1, hz2⟩ := info_parts Tryz.info5
  have hb' : w.ownsRow B 5 1 bv b.length (u8s b) := hb
  rcases h with ⟨rfl, rfl⟩ | ⟨a, g, o, cap, rfl, hc, ha, hcell⟩
  · have hmin : (if (0 : Int) < n then 0 else n) = 0 := by split <;> omega
    go_enter Tryz.func131, Tryz.ntmps131
    go_wp2_with (at_builtin; go_loud (refine wpList_append_none rfl _ _ 40 rfl B 5 i0 1 Tryz.underlying40 hi _ _ _ rfl (ownsRow_alloc hb' _) rfl ?_))
    go_ret
    exact ⟨_, rfl, by (rw [List.take_nil, List.append_nil]; exact ownsRow_alloc hb _), Below.alloc (Below.refl _ _) hB _⟩
  · have hk : (if (c.length : Int) < n then (c.length : Int) else n) = ((c.take n.toNat).length : Nat) := by rw [List.length_take]; split <;> omega
    have hk1 : (c.take n.toNat).length ≤ c.length := by rw [List.length_take]; omega
    have hnew := rd_cell (w := w.alloc (.cells #[.slice (some a) c.length cap] 122)) (xs := c) ha (fun j hj => by rw [(bel_alloc (Below.refl _ w) _).cell (block_lt_of_cell (hcell j hj))]; exact hcell j hj) n.toNat
    generalize c.take n.toNat = d at hnew hk hk1
    have HN := Lib.hid hnew
    clear hnew hcell ha
    have hk2 : (0 : Int) ≤ d.length := by omega
    have hk3 : (d.length : Int) ≤ cap := by omega
    go_enter Tryz.func131, Tryz.ntmps131
    go_wp2_with (at_builtin; go_loud (refine wpList_append_own _ rfl _ _ 40 rfl B 5 i0 (.int .u8 0) 1 1 Tryz.underlying40 hi hz0 hz1 hz2 rfl (by decide) _ _ _ rfl (ownsRow_alloc hb' _) a d.length cap (u8s d) rfl (by simp [u8s]) HN.out (u8s_one d) ?c3 ?c4 ?c5 ?_))
    case c3 => unfold maxLen; omega
    case c4 => omega
    case c5 => simp; omega
    intro v' w1 hown' hgrow _
    have hb0 := grown_below (ownsRow_alloc hb' _) (Below.alloc (Below.refl B w) hB (.cells #[.slice (some a) c.length cap] 122)) (by simp; omega) hgrow
    clear hgrow
    rw [show u8s b ++ u8s d = u8s (b ++ d) by simp [u8s], show b.length + d.length = (b ++ d).length by simp] at hown'
    go_wp2
    go_ret
    exact ⟨_, rfl, hown', hb0⟩

set_option maxRecDepth 100000 in
theorem cdone_c (k n : Int) (bv : Value) (b : List Int) (B : Nat) (w : World) (hb : RowO w B bv b) (hB : B ≤ w.heap.size) (hn : 1 ≤ n) (hk : 0 ≤ k) :
    Calls Tryz.prog 133 #[.agg #[.int .i64 k], bv, .int .i64 n] w fun e w' => ∃ v', e = .returned v' ∧ RowO w' B v' (b.take k.toNat) ∧ Below B w w' := by
  have hn1 : ¬ n < 1 := by omega
  have hm : (if (b.length : Int) < k then (b.length : Int) else k) = ((b.take k.toNat).length : Nat) := by rw [List.length_take]; split <;> omega
  have hm1 : (b.take k.toNat).length ≤ b.length := by rw [List.length_take]; omega
  have hrow := hb
  obtain ⟨h1, h2⟩ := hrow
  rcases h2 with ⟨rfl, h2⟩ | ⟨g, cap, cur, rfl, e2, e3, e4, e5, e6, e7⟩
  · have hb0 : b = [] := List.length_eq_zero_iff.1 h2
    subst hb0
    have hm0 : (if (0 : Int) < k then 0 else k) = 0 := by split <;> omega
    clear hm hm1 h1 h2
    go_enter Tryz.func133, Tryz.ntmps133
    go_wp2
    go_ret
    exact ⟨_, rfl, World.ownsRow_nil _ _ _ _, Below.alloc (Below.refl _ _) hB _⟩
  · have hres : RowO (w.alloc (.cells #[.int .i64 k] 126)) B (.slice (some ⟨g, 0, none⟩) (b.take k.toNat).length cap) (b.take k.toNat) := by
      have hg : g < w.heap.size := by
        by_cases hlt : g < w.heap.size
        · exact hlt
        · rw [Array.getElem?_eq_none (by omega)] at e3; cases e3
      refine ⟨by simp [u8s], .inr ⟨g, cap, cur, rfl, e2, by rw [Below.heap_alloc _ _ _ (by omega)]; exact e3, by omega, e5, e6, ?_⟩⟩
      have := congrArg (List.take (b.take k.toNat).length) e7
      rw [List.take_take, Nat.min_eq_left (by omega)] at this
      rw [Nat.mul_one, this]
      unfold u8s
      rw [← List.map_take, List.length_take]
      congr 1
      rw [← List.take_take, List.take_length]
    generalize (b.take k.toNat).length = mm at hm hm1 hres
    have hm2 : (0 : Int) ≤ mm := by omega
    have hm3 : (mm : Int) ≤ cap := by omega
    have HR := Lib.hid hres
    clear hres h1 e3 e6 e7
    go_enter Tryz.func133, Tryz.ntmps133
    go_wp2
    go_ret
    exact ⟨_, rfl, HR.out, Below.alloc (Below.refl _ _) hB _⟩
end Go.Proofs.YtfohemgfiidokaaGreatDoor
namespace Go.Proofs.YtfohemgfiidokaaGreatDoor
open Go.RowKit Go.Sort

inductive Chg where
  | wr (b : List Int)
  | ct (n : Int)
def Chg.units : Chg → Int
  | .wr b => b.length
  | .ct _ => 1
def Chg.done (b : List Int) (n : Int) : Chg → List Int
  | .wr c => b ++ c.take n.toNat
  | .ct k => b.take k.toNat
def Chg.size : Chg → Nat
  | .wr b => b.length
  | .ct _ => 0
def keptF (b : List Int) (u : Int) : List Chg → List Int
  | [] => b
  | c :: t => if u ≤ 0 then b else keptF (c.done b u) (u - c.units) t
/-- a change in memory -/
def ChgAt (w : World) (u : Value) : Chg → Prop
  | .wr c => ∃ cv, u = .iface 122 (.agg #[cv]) ∧ RdB w cv c
  | .ct n => u = .iface 126 (.agg #[.int .i64 n]) ∧ 0 ≤ n
def LooseAt (w : World) (v : Value) (l : List Chg) : Prop :=
  (v = .slice none 0 0 ∧ l = []) ∨ ∃ g cap, v = .slice (some ⟨g, 0, none⟩) l.length cap ∧ ∀ j (h : j < l.length), ∃ u, w.cell? ⟨g, j, none⟩ = some u ∧ ChgAt w u l[j]
theorem ChgAt.keep {w w' : World} {u : Value} {c : Chg} (h : ChgAt w u c) (hb : Below w.heap.size w w') : ChgAt w' u c := by
  cases c with
  | wr c => obtain ⟨cv, h1, h2⟩ := h; exact ⟨cv, h1, h2.keep hb⟩
  | ct n => exact h
theorem LooseAt.keep {w w' : World} {v : Value} {l : List Chg} (h : LooseAt w v l) (hb : Below w.heap.size w w') : LooseAt w' v l := by
  rcases h with h | ⟨g, cap, h1, h2⟩
  · exact .inl h
  · refine .inr ⟨g, cap, h1, fun j hj => ?_⟩
    obtain ⟨u, h3, h4⟩ := h2 j hj
    exact ⟨u, by rw [hb.cell (block_lt_of_cell h3)]; exact h3, h4.keep hb⟩
def sizes : List Chg → Nat
  | [] => 0
  | c :: t => c.size + sizes t

theorem m_wdone (cv : Value) (w : World) : (method 279 122 (.agg #[cv]) "scantling/disk.done").run Tryz.prog w = .ok (131, .agg #[cv]) w := by kernel_rfl
theorem m_wunits (cv : Value) (w : World) : (method 279 122 (.agg #[cv]) "scantling/disk.units").run Tryz.prog w = .ok (132, .agg #[cv]) w := by kernel_rfl
theorem m_cdone (cv : Value) (w : World) : (method 279 126 (.agg #[cv]) "scantling/disk.done").run Tryz.prog w = .ok (133, .agg #[cv]) w := by kernel_rfl
theorem m_cunits (cv : Value) (w : World) : (method 279 126 (.agg #[cv]) "scantling/disk.units").run Tryz.prog w = .ok (134, .agg #[cv]) w := by kernel_rfl

set_option maxRecDepth 100000 in
set_option maxHeartbeats 1600000 in
theorem kept_c (D o : Nat) (sv lv : Value) (s : List Int) (l : List Chg) (u : Int) (w : World) (c0 : w.cell? ⟨D, o, none⟩ = some sv) (c1 : w.cell? ⟨D, o + 1, none⟩ = some lv)
    (hs : RdB w sv s) (hl : LooseAt w lv l) (hL : s.length + sizes l ≤ 1000000000) (hn : l.length ≤ 1000000000) (hu : -9223372036854775808 ≤ u) (hu' : u ≤ 9223372036854775807) :
    Calls Tryz.prog 84 #[.pointer (some ⟨D, o, none⟩), .int .i64 u] w fun e w' => ∃ v', e = .returned v' ∧ RowO w' w.heap.size v' (keptF s u l) ∧ Below w.heap.size w w' := by
  have kc := fun w h => clone_c sv s w h (by omega)
  go_enter Tryz.func84, Tryz.ntmps84
  go_upto_region 2 with (go_at_call 83; with_reducible refine (kc _ hs).mono ?_; rintro e w1 ⟨v', rfl, hr, hb⟩)
  have hs0 := hb.size
  have c1' : w1.cell? ⟨D, o + 1, none⟩ = some lv := by rw [hb.cell (block_lt_of_cell c1)]; exact c1
  have hl' := hl.keep hb
  obtain ⟨p, cap, rfl, hel⟩ : ∃ p cap, lv = .slice p l.length cap ∧ ∀ W, Below w.heap.size w W → ∀ j (h : j < l.length), ∃ g v, p = some ⟨g, 0, none⟩ ∧ W.cell? ⟨g, j, none⟩ = some v ∧ ChgAt W v l[j] := by
    rcases hl with ⟨rfl, rfl⟩ | ⟨g, cap, rfl, h2⟩
    · exact ⟨none, 0, rfl, fun W hW j h => by simp at h⟩
    · refine ⟨some ⟨g, 0, none⟩, cap, rfl, fun W hW j h => ?_⟩
      obtain ⟨v, h3, h4⟩ := h2 j h
      exact ⟨g, v, rfl, by rw [hW.cell (block_lt_of_cell h3)]; exact h3, h4.keep hW⟩
  clear c0 c1 hs hl hl' kc
  have HE := Lib.hid hel
  clear hel
  go_upto_region 3 with fail
  have hlen : l.length ≤ 1000000000 := hn
  go_loopw [1, 5, 18] (fun uv bv iv wr => ∃ (k : Nat) (b : List Int) (u' : Int), k ≤ l.length ∧ iv = .int .i64 k ∧ uv = .int .i64 u' ∧ RowO wr w.heap.size bv b ∧ keptF b u' (l.drop k) = keptF s u l ∧ b.length + sizes (l.drop k) ≤ 1000000000 ∧ -9223372036854775808 ≤ u' ∧ u' ≤ 9223372036854775807 ∧ Below w.heap.size w wr) (fun _ _ i _ => l.length - (intOf i).toNat)
  case atStart => exact ⟨0, s, u, by omega, rfl, rfl, hr, rfl, hL, hu, hu', hb⟩
  case round =>
    clear hr hb hs0 c1'
    obtain ⟨k, b, u', hk, rfl, rfl, hr, hkf, hsz, hu0, hu1, hb⟩ := hrel
    by_cases hlt : k < l.length
    · have hk0 : (0 : Int) ≤ k := by omega
      have hkl : (k : Int) < l.length := by omega
      obtain ⟨g, v, rfl, hcell, hch⟩ := HE.out wr hb k hlt
      have hdr : l.drop k = l[k] :: l.drop (k + 1) := List.drop_eq_getElem_cons hlt
      rw [hdr] at hkf hsz
      generalize l[k] = c at hch hkf hsz
      simp only [sizes] at hsz
      simp only [keptF] at hkf
      by_cases hu2 : u' ≤ 0
      · rw [if_pos hu2] at hkf
        have HK := Lib.hid hkf
        clear hkf hdr
        go_wp2
        go_ret
        exact ⟨_, rfl, by (rw [← HK.out]; exact hr), hb⟩
      · rw [if_neg hu2] at hkf
        have HK := Lib.hid hkf
        have HC := Lib.hid hch
        clear hkf hdr hch
        cases c with
        | wr c =>
          obtain ⟨cv, rfl, hrd⟩ := HC.out
          have m1 := m_wdone cv
          have m2 := m_wunits cv
          have hbs := hb.size
          have kd := wdone_c cv u5 c b w.heap.size u' wr hrd hr hbs (by omega) (by simp only [Chg.size] at hsz; omega)
          go_upto_region 7 with (go_at_call 131; with_reducible refine kd.mono ?_; rintro e w1 ⟨v2, rfl, hr2, hb2⟩)
          have hb3 : Below w.heap.size w w1 := hb.trans hb2
          have hs1 := hb3.size
          have ku := wunits_c cv c wr w1 hrd
          have hcl : (0 : Int) ≤ c.length := by omega
          have hsz' : b.length + (c.length + sizes (l.drop (k + 1))) ≤ 1000000000 := hsz
          have wu : IntKind.i64.wrap (u' - c.length) = u' - c.length := by rw [IntKind.wrap_i64]; omega
          clear kd m1 hr hcell hrd
          clear hb2 hb
          go_wp2_with (go_at_call 132; with_reducible refine ku.mono ?_; rintro e w2 ⟨rfl, hb4⟩)
          go_roundw
          case rel => exact ⟨k + 1, b ++ c.take u'.toNat, u' - c.length, by omega, by go_num, rfl, hr2.keep hb4, HK.out, by (rw [List.length_append, List.length_take]; omega), by omega, by omega, hb3.trans (hb4.mono hs1)⟩
          case measure => simp [intOf]; omega
        | ct n =>
          obtain ⟨rfl, hn0⟩ := HC.out
          have m1 := m_cdone (.int .i64 n)
          have m2 := m_cunits (.int .i64 n)
          have hbs := hb.size
          have kd := cdone_c n u' u5 b w.heap.size wr hr hbs (by omega) hn0
          go_upto_region 7 with (go_at_call 133; with_reducible refine kd.mono ?_; rintro e w1 ⟨v2, rfl, hr2, hb2⟩)
          have hb3 : Below w.heap.size w w1 := hb.trans hb2
          have hs1 := hb3.size
          have ku := cunits_c n w1
          have wu : IntKind.i64.wrap (u' - 1) = u' - 1 := by rw [IntKind.wrap_i64]; omega
          clear kd m1 hr hcell
          clear hb2 hb
          go_wp2_with (go_at_call 134; with_reducible refine ku.mono ?_; rintro e w2 ⟨rfl, hb4⟩)
          go_roundw
          case rel => exact ⟨k + 1, b.take n.toNat, u' - 1, by omega, by go_num, rfl, hr2.keep hb4, HK.out, by (rw [List.length_take]; simp only [Chg.size] at hsz; omega), by omega, by omega, hb3.trans (hb4.mono hs1)⟩
          case measure => simp [intOf]; omega
    · have hkk : k = l.length := by omega
      subst hkk
      rw [List.drop_length] at hkf
      have HK := Lib.hid hkf
      clear hkf
      go_wp2
      go_ret
      exact ⟨_, rfl, by (rw [← HK.out]; exact hr), hb⟩
end Go.Proofs.YtfohemgfiidokaaGreatDoor
namespace Go.Proofs.YtfohemgfiidokaaGreatDoor
open Go.RowKit Go.Sort

theorem RowO.shape {w : World} {B : Nat} {v : Value} {xs : List Int} (h : RowO w B v xs) : ∃ p cap, v = .slice p xs.length cap := by
  obtain ⟨-, ⟨h1, h2⟩ | ⟨g, cap, cur, h1, -⟩⟩ := h
  · exact ⟨none, 0, by rw [h1, h2]⟩
  · exact ⟨_, cap, h1⟩
theorem frozen_keep {w w' : World} {D o : Nat} {f : Bool} (h : w.frozen? ⟨D, o, none⟩ = f) (hb : Below w.heap.size w w') (hD : D < w.heap.size) : w'.frozen? ⟨D, o, none⟩ = f :=
  (World.frozen?_of_block (hb.block D hD)).trans h
/-- what stands in a file -/
def standsF (s : List Int) (l : List Chg) : List Int := keptF s 9223372036854775807 l

theorem stands_c (D o : Nat) (sv lv : Value) (s : List Int) (l : List Chg) (w : World) (c0 : w.cell? ⟨D, o, none⟩ = some sv) (c1 : w.cell? ⟨D, o + 1, none⟩ = some lv)
    (hs : RdB w sv s) (hl : LooseAt w lv l) (hL : s.length + sizes l ≤ 1000000000) (hn : l.length ≤ 1000000000) :
    Calls Tryz.prog 44 #[.pointer (some ⟨D, o, none⟩)] w fun e w' => ∃ v', e = .returned v' ∧ RowO w' w.heap.size v' (standsF s l) ∧ Below w.heap.size w w' := by
  have kk := kept_c D o sv lv s l 9223372036854775807 w c0 c1 hs hl hL hn (by omega) (by omega)
  go_enter Tryz.func44, Tryz.ntmps44
  go_wp2_with (go_at_call 84; with_reducible refine kk.mono ?_; rintro e w1 ⟨v', rfl, hr, hb⟩)
  go_ret
  exact ⟨_, rfl, hr, hb⟩

theorem settle_c (D o : Nat) (sv lv : Value) (s : List Int) (l : List Chg) (u : Int) (w : World) (c0 : w.cell? ⟨D, o, none⟩ = some sv) (c1 : w.cell? ⟨D, o + 1, none⟩ = some lv)
    (f0 : w.frozen? ⟨D, o, none⟩ = false) (f1 : w.frozen? ⟨D, o + 1, none⟩ = false)
    (hs : RdB w sv s) (hl : LooseAt w lv l) (hL : s.length + sizes l ≤ 1000000000) (hn : l.length ≤ 1000000000) (hu : -9223372036854775808 ≤ u) (hu' : u ≤ 9223372036854775807) :
    Calls Tryz.prog 46 #[.pointer (some ⟨D, o, none⟩), .int .i64 u] w fun e w' => ∃ v' w1, e = .returned undef ∧ RowO w1 w.heap.size v' (keptF s u l) ∧ Below w.heap.size w w1 ∧ w' = (w1.setCell ⟨D, o, none⟩ v').setCell ⟨D, o + 1, none⟩ (.slice none 0 0) := by
  have kk := kept_c D o sv lv s l u w c0 c1 hs hl hL hn hu hu'
  have hD := block_lt_of_cell c0
  go_enter Tryz.func46, Tryz.ntmps46
  go_wp2_with (go_at_call 84; with_reducible refine kk.mono ?_; rintro e w1 ⟨v', rfl, hr, hb⟩; have d0 : w1.cell? ⟨D, o, none⟩ = some sv := (hb.cell (block_lt_of_cell c0)).trans c0; have d1 : w1.cell? ⟨D, o + 1, none⟩ = some lv := (hb.cell (block_lt_of_cell c1)).trans c1; have e0 := frozen_keep f0 hb hD; have e1 := frozen_keep f1 hb hD; obtain ⟨p, cap, rfl⟩ := hr.shape)
  go_end0
  exact ⟨_, _, rfl, hr, hb, rfl⟩

theorem may_nil (f : Int) (w : World) : Calls Tryz.prog 45 #[.pointer none, .int .i64 f] w fun e w' => e = .returned (.int .i64 2) ∧ Below w.heap.size w w' := by
  go_enter Tryz.func45, Tryz.ntmps45
  go_wp2
  go_ret
  exact ⟨rfl, Below.refl _ _⟩
def mayv (off : Bool) (f : Int) : Int := if off then 8 else if f < 0 ∨ 2 ≤ f then 1 else 0
theorem may_c (D : Nat) (off : Bool) (f : Int) (w : World) (c : w.cell? ⟨D, 5, none⟩ = some (.bool off)) : Calls Tryz.prog 45 #[.pointer (some ⟨D, 0, none⟩), .int .i64 f] w fun e w' => e = .returned (.int .i64 (mayv off f)) ∧ w' = w := by
  unfold mayv
  cases off
  · by_cases h0 : f < 0
    · go_enter Tryz.func45, Tryz.ntmps45
      go_wp2
      go_ret
      exact ⟨by simp, rfl⟩
    · by_cases h1 : 2 ≤ f
      · go_enter Tryz.func45, Tryz.ntmps45
        go_wp2
        go_ret
        exact ⟨by simp, rfl⟩
      · go_enter Tryz.func45, Tryz.ntmps45
        go_wp2
        go_ret
        exact ⟨by simp, rfl⟩
  · go_enter Tryz.func45, Tryz.ntmps45
    go_wp2
    go_ret
    exact ⟨rfl, rfl⟩
end Go.Proofs.YtfohemgfiidokaaGreatDoor
namespace Go.Proofs.YtfohemgfiidokaaGreatDoor
open Go.RowKit Go.Sort

theorem after_call {w W w1 : World} (h : Below w.heap.size w W) (hb : Below W.heap.size W w1) : Below w.heap.size w w1 := bel_call h hb

set_option maxRecDepth 100000 in
set_option maxHeartbeats 1600000 in
theorem room_c (D n0 n1 : Nat) (most : Int) (w : World) (cm : w.cell? ⟨D, 4, none⟩ = some (.int .i64 most)) (hm0 : 0 ≤ most) (hm1 : most ≤ 4194304) (h0 : n0 ≤ 1000000000) (h1 : n1 ≤ 1000000000)
    (ka : ∀ W, Below w.heap.size w W → Calls Tryz.prog 44 #[.pointer (some ⟨D, 0, none⟩)] W fun e w' => ∃ p cap, e = .returned (.slice p n0 cap) ∧ Below W.heap.size W w')
    (kb : ∀ W, Below w.heap.size w W → Calls Tryz.prog 44 #[.pointer (some ⟨D, 2, none⟩)] W fun e w' => ∃ p cap, e = .returned (.slice p n1 cap) ∧ Below W.heap.size W w') :
    Calls Tryz.prog 16 #[.pointer (some ⟨D, 0, none⟩)] w fun e w' => e = .returned (.int .i64 (max 0 (most - n0 - n1))) ∧ Below w.heap.size w w' := by
  have hbd : Below w.heap.size w w.drew := (Below.refl _ _).drew
  have ka0 := ka _ hbd
  have kb0 := kb _ hbd
  have g1 : IntKind.i64.wrap (most - n0) = most - n0 := by rw [IntKind.wrap_i64]; omega
  have g2 : IntKind.i64.wrap (most - n0 - n1) = most - n0 - n1 := by rw [IntKind.wrap_i64]; omega
  go_enter Tryz.func16, Tryz.ntmps16
  go_upto_region 3 with fail
  go_region_with (first
    | (go_at_call 44; with_reducible refine ka0.mono ?_; rintro e w1 ⟨p1, cap1, rfl, hb1⟩; have hB1 := after_call hbd hb1; have kb1 := kb _ hB1; have cm1 := (hB1.cell (block_lt_of_cell cm)).trans cm)
    | (go_at_call 44; with_reducible refine kb0.mono ?_; rintro e w2 ⟨p2, cap2, rfl, hb2⟩; have hB2 := after_call hbd hb2; have ka1 := ka _ hB2; have cm1 := (hB2.cell (block_lt_of_cell cm)).trans cm)
    | (go_at_call 44; with_reducible refine kb1.mono ?_; rintro e w3 ⟨p3, cap3, rfl, hb3⟩; have hB3 := after_call hB1 hb3; have cm2 := (hB3.cell (block_lt_of_cell cm)).trans cm)
    | (go_at_call 44; with_reducible refine ka1.mono ?_; rintro e w4 ⟨p4, cap4, rfl, hb4⟩; have hB4 := after_call hB2 hb4; have cm2 := (hB4.cell (block_lt_of_cell cm)).trans cm))
  all_goals go_wp2
  all_goals go_ret
  all_goals refine ⟨congrArg (fun z : Int => Ending.returned (.int .i64 z)) ?_, ?_⟩
  all_goals first | omega | exact hB3 | exact hB4

theorem room_nil (w : World) : Calls Tryz.prog 16 #[.pointer none] w fun e w' => e = .returned (.int .i64 0) ∧ Below w.heap.size w w' := by
  go_enter Tryz.func16, Tryz.ntmps16
  go_wp2
  go_ret
  exact ⟨rfl, Below.refl _ _⟩
theorem read_nil (f : Int) (w : World) : Calls Tryz.prog 24 #[.pointer none, .int .i64 f] w fun e w' => e = .returned (.tuple #[.slice none 0 0, .int .i64 2]) ∧ Below w.heap.size w w' := by
  have km := may_nil f
  go_enter Tryz.func24, Tryz.ntmps24
  go_wp2_with (go_at_call 45; with_reducible refine (km _).mono ?_; rintro e w1 ⟨rfl, hb1⟩)
  go_ret2
  exact ⟨rfl, hb1⟩
theorem fuse_nil (n : Int) (w : World) : Calls Tryz.prog 21 #[.pointer none, .int .i64 n] w fun e w' => e = .returned (.int .i64 2) ∧ Below w.heap.size w w' := by
  have km := may_nil 0
  go_enter Tryz.func21, Tryz.ntmps21
  go_wp2_with (go_at_call 45; with_reducible refine (km _).mono ?_; rintro e w1 ⟨rfl, hb1⟩)
  go_ret
  exact ⟨rfl, hb1⟩
theorem off_nil (w : World) : Calls Tryz.prog 17 #[.pointer none] w fun e w' => e = .returned (.int .i64 2) ∧ Below w.heap.size w w' := by
  have km := may_nil 0
  go_enter Tryz.func17, Tryz.ntmps17
  go_wp2_with (go_at_call 45; with_reducible refine (km _).mono ?_; rintro e w1 ⟨rfl, hb1⟩)
  go_ret
  exact ⟨rfl, hb1⟩
theorem on_nil (v : Value) (w : World) : Calls Tryz.prog 18 #[.pointer none, v] w fun e w' => e = .returned (.int .i64 2) ∧ Below w.heap.size w w' := by
  go_enter Tryz.func18, Tryz.ntmps18
  go_wp2
  go_ret
  exact ⟨rfl, Below.refl _ _⟩
theorem write_nil (f : Int) (p : Option Addr) (n cap : Nat) (w : World) : Calls Tryz.prog 41 #[.pointer none, .int .i64 f, .slice p n cap] w fun e w' => e = .returned (.int .i64 2) ∧ Below w.heap.size w w' := by
  have km := may_nil f
  go_enter Tryz.func41, Tryz.ntmps41
  go_wp2_with (go_at_call 45; with_reducible refine (km _).mono ?_; rintro e w1 ⟨rfl, hb1⟩)
  go_ret
  exact ⟨rfl, bel_call (bel_alloc (bel_alloc (bel_alloc (Below.refl _ _) _) _) _) hb1⟩
theorem cut_nil (f n : Int) (w : World) : Calls Tryz.prog 52 #[.pointer none, .int .i64 f, .int .i64 n] w fun e w' => e = .returned (.int .i64 2) ∧ Below w.heap.size w w' := by
  have km := may_nil f
  go_enter Tryz.func52, Tryz.ntmps52
  go_wp2_with (go_at_call 45; with_reducible refine (km _).mono ?_; rintro e w1 ⟨rfl, hb1⟩)
  go_ret
  exact ⟨rfl, bel_call (bel_alloc (bel_alloc (bel_alloc (Below.refl _ _) _) _) _) hb1⟩
theorem sync_nil (f : Int) (w : World) : Calls Tryz.prog 35 #[.pointer none, .int .i64 f] w fun e w' => e = .returned (.int .i64 2) ∧ Below w.heap.size w w' := by
  have km := may_nil f
  go_enter Tryz.func35, Tryz.ntmps35
  go_wp2_with (go_at_call 45; with_reducible refine (km _).mono ?_; rintro e w1 ⟨rfl, hb1⟩)
  go_ret
  exact ⟨rfl, bel_call (bel_alloc (bel_alloc (Below.refl _ _) _) _) hb1⟩
end Go.Proofs.YtfohemgfiidokaaGreatDoor
namespace Go.Proofs.YtfohemgfiidokaaGreatDoor
open Go.RowKit Go.Sort

structure Fil where
  s : List Int
  l : List Chg
structure Dk where
  f0 : Fil
  f1 : Fil
  most : Int
  off : Bool
  fused : Bool
  left : Int

def RdR (w : World) (ρ : Nat → Nat) (v : Value) (xs : List Int) : Prop :=
  (v = .slice none 0 0 ∧ xs = []) ∨ ∃ g cap, v = .slice (some ⟨g, 0, none⟩) xs.length cap ∧ xs.length ≤ cap ∧ ρ g = 0 ∧ g < w.heap.size ∧ ∀ j, j < xs.length → w.cell? ⟨g, j, none⟩ = some (.int .u8 (xs[j]?.getD 0))
def ChgR (w : World) (ρ : Nat → Nat) (u : Value) : Chg → Prop
  | .wr c => ∃ cv, u = .iface 122 (.agg #[cv]) ∧ RdR w ρ cv c
  | .ct n => u = .iface 126 (.agg #[.int .i64 n]) ∧ 0 ≤ n
def LoR (w : World) (ρ : Nat → Nat) (B r : Nat) (v : Value) (l : List Chg) : Prop :=
  ∃ us : List Value, w.ownsRow B 141 1 v l.length us ∧ (∀ g, v.ownBlock = some g → ρ g = r) ∧ ∀ j (h : j < l.length), ∃ u, us[j]? = some u ∧ ChgR w ρ u l[j]
def FilAt (w : World) (ρ : Nat → Nat) (B D f : Nat) (F : Fil) : Prop :=
  ∃ sv lv, w.cell? ⟨D, 2 * f, none⟩ = some sv ∧ w.cell? ⟨D, 2 * f + 1, none⟩ = some lv ∧ RdR w ρ sv F.s ∧ LoR w ρ B (2 + f) lv F.l
structure DiskAt (w : World) (ρ : Nat → Nat) (B D : Nat) (d : Dk) : Prop where
  base : B ≤ D
  role : ρ D = 1
  fresh : ∀ k, w.heap.size ≤ k → ρ k = 0
  f0 : FilAt w ρ B D 0 d.f0
  f1 : FilAt w ρ B D 1 d.f1
  most : w.cell? ⟨D, 4, none⟩ = some (.int .i64 d.most)
  off : w.cell? ⟨D, 5, none⟩ = some (.bool d.off)
  fused : w.cell? ⟨D, 6, none⟩ = some (.bool d.fused)
  left : w.cell? ⟨D, 7, none⟩ = some (.int .i64 d.left)
  fz : ∀ o, w.frozen? ⟨D, o, none⟩ = false

theorem RdR.rdb {w : World} {ρ : Nat → Nat} {v : Value} {xs : List Int} (h : RdR w ρ v xs) : RdB w v xs := by
  rcases h with h | ⟨g, cap, h1, h2, h3, h4, h5⟩
  · exact .inl h
  · exact .inr ⟨⟨g, 0, none⟩, g, 0, cap, h1, h2, fun _ => rfl, fun j hj => by rw [Nat.zero_add]; exact h5 j hj⟩
theorem ChgR.at {w : World} {ρ : Nat → Nat} {u : Value} {c : Chg} (h : ChgR w ρ u c) : ChgAt w u c := by
  cases c with
  | wr c => obtain ⟨cv, h1, h2⟩ := h; exact ⟨cv, h1, h2.rdb⟩
  | ct n => exact h
theorem own_cell {w : World} {B e : Nat} {v : Value} {n : Nat} {us : List Value} {g cap : Nat} (h : w.ownsRow B e 1 v n us) (hv : v = .slice (some ⟨g, 0, none⟩) n cap) (j : Nat) (hj : j < n) : w.cell? ⟨g, j, none⟩ = us[j]? := by
  subst hv
  exact h.cellAt j (by omega)
theorem LoR.at {w : World} {ρ : Nat → Nat} {B r : Nat} {v : Value} {l : List Chg} (h : LoR w ρ B r v l) : LooseAt w v l := by
  obtain ⟨us, h1, h2, h3⟩ := h
  rcases h1.2 with ⟨e1, e2⟩ | ⟨g, cap, cur, e1, -⟩
  · exact .inl ⟨e1, List.length_eq_zero_iff.1 e2⟩
  · refine .inr ⟨g, cap, e1, fun j hj => ?_⟩
    obtain ⟨u, h4, h5⟩ := h3 j hj
    exact ⟨u, by rw [own_cell h1 e1 j hj]; exact h4, h5.at⟩

/-- blocks of role 0 as they were -/
theorem RdR.other {w w' : World} {ρ : Nat → Nat} {v : Value} {xs : List Int} (h : RdR w ρ v xs) (hs : w.heap.size ≤ w'.heap.size) (hk : ∀ g, g < w.heap.size → ρ g = 0 → w'.heap[g]? = w.heap[g]?) : RdR w' ρ v xs := by
  rcases h with h | ⟨g, cap, h1, h2, h3, h4, h5⟩
  · exact .inl h
  · exact .inr ⟨g, cap, h1, h2, h3, by omega, fun j hj => by rw [World.cell?_of_block (hk g h4 h3)]; exact h5 j hj⟩
theorem ChgR.other {w w' : World} {ρ : Nat → Nat} {u : Value} {c : Chg} (h : ChgR w ρ u c) (hs : w.heap.size ≤ w'.heap.size) (hk : ∀ g, g < w.heap.size → ρ g = 0 → w'.heap[g]? = w.heap[g]?) : ChgR w' ρ u c := by
  cases c with
  | wr c => obtain ⟨cv, h1, h2⟩ := h; exact ⟨cv, h1, h2.other hs hk⟩
  | ct n => exact h
theorem own_lt {w : World} {B e size n : Nat} {v : Value} {us : List Value} (h : w.ownsRow B e size v n us) {g : Nat} (hg : v.ownBlock = some g) : g < w.heap.size := (h.lt g hg).2
theorem own_other {w w' : World} {B e size n : Nat} {v : Value} {us : List Value} (h : w.ownsRow B e size v n us) (hk : ∀ g, v.ownBlock = some g → w'.heap[g]? = w.heap[g]?) : w'.ownsRow B e size v n us := by
  obtain ⟨h1, h2⟩ := h
  refine ⟨h1, ?_⟩
  rcases h2 with h2 | ⟨g, cap, cur, e1, e2, e3, e4⟩
  · exact .inl h2
  · exact .inr ⟨g, cap, cur, e1, e2, by rw [hk g (by rw [e1]; rfl)]; exact e3, e4⟩
theorem LoR.other {w w' : World} {ρ : Nat → Nat} {B r : Nat} {v : Value} {l : List Chg} (h : LoR w ρ B r v l) (hs : w.heap.size ≤ w'.heap.size) (hk : ∀ g, g < w.heap.size → ρ g = 0 ∨ ρ g = r → w'.heap[g]? = w.heap[g]?) : LoR w' ρ B r v l := by
  obtain ⟨us, h1, h2, h3⟩ := h
  refine ⟨us, own_other h1 fun g hg => hk g (own_lt h1 hg) (.inr (h2 g hg)), h2, fun j hj => ?_⟩
  obtain ⟨u, h4, h5⟩ := h3 j hj
  exact ⟨u, h4, h5.other hs fun g hl hg => hk g hl (.inl hg)⟩
theorem FilAt.other {w w' : World} {ρ : Nat → Nat} {B D f : Nat} {F : Fil} (h : FilAt w ρ B D f F) (hs : w.heap.size ≤ w'.heap.size) (hk : ∀ g, g < w.heap.size → ρ g = 0 ∨ ρ g = 2 + f → w'.heap[g]? = w.heap[g]?)
    (hc : w'.cell? ⟨D, 2 * f, none⟩ = w.cell? ⟨D, 2 * f, none⟩) (hc1 : w'.cell? ⟨D, 2 * f + 1, none⟩ = w.cell? ⟨D, 2 * f + 1, none⟩) : FilAt w' ρ B D f F := by
  obtain ⟨sv, lv, h1, h2, h3, h4⟩ := h
  exact ⟨sv, lv, hc.trans h1, hc1.trans h2, h3.other hs fun g hl hg => hk g hl (.inl hg), h4.other hs hk⟩
theorem DiskAt.lt {w : World} {ρ : Nat → Nat} {B D : Nat} {d : Dk} (h : DiskAt w ρ B D d) : D < w.heap.size := block_lt_of_cell h.most
theorem DiskAt.keep {w w' : World} {ρ : Nat → Nat} {B D : Nat} {d : Dk} (h : DiskAt w ρ B D d) (hb : Below w.heap.size w w') : DiskAt w' ρ B D d := by
  have hD := h.lt
  have hc : ∀ o, w'.cell? ⟨D, o, none⟩ = w.cell? ⟨D, o, none⟩ := fun o => World.cell?_of_block (hb.block D hD)
  exact ⟨h.base, h.role, fun k hk => h.fresh k (Nat.le_trans hb.size hk), h.f0.other hb.size (fun g hl _ => hb.block g hl) (hc _) (hc _), h.f1.other hb.size (fun g hl _ => hb.block g hl) (hc _) (hc _),
    (hc _).trans h.most, (hc _).trans h.off, (hc _).trans h.fused, (hc _).trans h.left, fun o => frozen_keep (h.fz o) hb hD⟩
/-- a field of the disk that is no file is written -/
theorem set_heap {w : World} {D o g : Nat} {v : Value} (h : g ≠ D) : (w.setCell ⟨D, o, none⟩ v).heap[g]? = w.heap[g]? := heap_setCell_other _ _ _ _ (by simp; omega)
theorem set_cell {w : World} {D o o' : Nat} {v : Value} (h : o' ≠ o) : (w.setCell ⟨D, o, none⟩ v).cell? ⟨D, o', none⟩ = w.cell? ⟨D, o', none⟩ := by
  apply World.cell?_setCell_other
  exact fun e => h (congrArg Addr.off e).symm
theorem filAt_set {w : World} {ρ : Nat → Nat} {B D f o : Nat} {F : Fil} {v : Value} (h : FilAt w ρ B D f F) (hr : ρ D = 1) (h0 : 2 * f ≠ o) (h1 : 2 * f + 1 ≠ o) : FilAt (w.setCell ⟨D, o, none⟩ v) ρ B D f F :=
  h.other (by simp [World.setCell]) (fun g _ hg => set_heap fun e => by subst e; omega) (set_cell h0) (set_cell h1)
theorem set_frozen {w : World} {D o o' : Nat} {v : Value} : (w.setCell ⟨D, o, none⟩ v).frozen? ⟨D, o', none⟩ = w.frozen? ⟨D, o', none⟩ := by simp
theorem set_same {w : World} {D o : Nat} {u v : Value} (h : w.cell? ⟨D, o, none⟩ = some u) : (w.setCell ⟨D, o, none⟩ v).cell? ⟨D, o, none⟩ = some v := World.cell?_setCell_same _ _ _ h
theorem set_size {w : World} {D o : Nat} {v : Value} : (w.setCell ⟨D, o, none⟩ v).heap.size = w.heap.size := by simp [World.setCell]
theorem DiskAt.setOff {w : World} {ρ : Nat → Nat} {B D : Nat} {d : Dk} (h : DiskAt w ρ B D d) (b : Bool) : DiskAt (w.setCell ⟨D, 5, none⟩ (.bool b)) ρ B D { d with off := b } :=
  ⟨h.base, h.role, fun k hk => h.fresh k (by rwa [set_size] at hk), filAt_set h.f0 h.role (by omega) (by omega), filAt_set h.f1 h.role (by omega) (by omega),
    (set_cell (by omega)).trans h.most, set_same h.off, (set_cell (by omega)).trans h.fused, (set_cell (by omega)).trans h.left, fun o => set_frozen.trans (h.fz o)⟩
theorem DiskAt.setFused {w : World} {ρ : Nat → Nat} {B D : Nat} {d : Dk} (h : DiskAt w ρ B D d) (b : Bool) : DiskAt (w.setCell ⟨D, 6, none⟩ (.bool b)) ρ B D { d with fused := b } :=
  ⟨h.base, h.role, fun k hk => h.fresh k (by rwa [set_size] at hk), filAt_set h.f0 h.role (by omega) (by omega), filAt_set h.f1 h.role (by omega) (by omega),
    (set_cell (by omega)).trans h.most, (set_cell (by omega)).trans h.off, set_same h.fused, (set_cell (by omega)).trans h.left, fun o => set_frozen.trans (h.fz o)⟩
theorem DiskAt.setLeft {w : World} {ρ : Nat → Nat} {B D : Nat} {d : Dk} (h : DiskAt w ρ B D d) (n : Int) : DiskAt (w.setCell ⟨D, 7, none⟩ (.int .i64 n)) ρ B D { d with left := n } :=
  ⟨h.base, h.role, fun k hk => h.fresh k (by rwa [set_size] at hk), filAt_set h.f0 h.role (by omega) (by omega), filAt_set h.f1 h.role (by omega) (by omega),
    (set_cell (by omega)).trans h.most, (set_cell (by omega)).trans h.off, (set_cell (by omega)).trans h.fused, set_same h.left, fun o => set_frozen.trans (h.fz o)⟩

/-- a row of one's own that was made behind all that has a role is one that is only read -/
theorem RowO.rdr {w : World} {B : Nat} {v : Value} {xs : List Int} {ρ : Nat → Nat} (h : RowO w B v xs) (hf : ∀ k, B ≤ k → ρ k = 0) : RdR w ρ v xs := by
  have hl : ∀ g, v.ownBlock = some g → g < w.heap.size := fun g hg => own_lt h hg
  rcases h.2 with ⟨h1, h2⟩ | ⟨g, cap, cur, h1, h2, h3, h4, h5, h6, h7⟩
  · exact .inl ⟨h1, List.length_eq_zero_iff.1 h2⟩
  · refine .inr ⟨g, cap, h1, h4, hf g h2, hl g (by rw [h1]; rfl), fun j hj => ?_⟩
    rw [own_cell h h1 j hj]
    simp [u8s, List.getElem?_eq_getElem hj]
/-- a file settled: its text is a new row, nothing is loose -/
theorem settled_fil {w1 : World} {ρ : Nat → Nat} {B D f B1 : Nat} {v sv lv : Value} {xs : List Int} (hr : RowO w1 B1 v xs) (hf : ∀ k, B1 ≤ k → ρ k = 0) (hD : ρ D = 1) (c0 : w1.cell? ⟨D, 2 * f, none⟩ = some sv) (c1 : w1.cell? ⟨D, 2 * f + 1, none⟩ = some lv) :
    FilAt ((w1.setCell ⟨D, 2 * f, none⟩ v).setCell ⟨D, 2 * f + 1, none⟩ (.slice none 0 0)) ρ B D f ⟨xs, []⟩ := by
  refine ⟨v, .slice none 0 0, ?_, ?_, ?_, ?_⟩
  · rw [set_cell (by omega)]; exact set_same c0
  · exact set_same ((set_cell (by omega)).trans c1)
  · refine (hr.rdr hf).other (by rw [set_size, set_size]; exact Nat.le_refl _) fun g _ hg => ?_
    have hne : g ≠ D := fun e => by subst e; omega
    rw [set_heap hne, set_heap hne]
  · exact ⟨[], World.ownsRow_nil _ _ _ _, fun g hg => by simp [Value.ownBlock] at hg, fun j hj => by simp at hj⟩
end Go.Proofs.YtfohemgfiidokaaGreatDoor
namespace Go.Proofs.YtfohemgfiidokaaGreatDoor
open Go.RowKit Go.Sort

/-- what no file is greater than -/
def Small (F : Fil) : Prop := F.s.length + sizes F.l ≤ 500000000 ∧ F.l.length ≤ 1000000000
def Fil.stands (F : Fil) : List Int := standsF F.s F.l
theorem done_len (c : Chg) (b : List Int) (u : Int) : (c.done b u).length ≤ b.length + c.size := by
  cases c with
  | wr c => simp only [Chg.done, Chg.size, List.length_append, List.length_take]; omega
  | ct k => simp only [Chg.done, Chg.size, List.length_take]; omega
theorem kept_len : ∀ (l : List Chg) (b : List Int) (u : Int), (keptF b u l).length ≤ b.length + sizes l
  | [], b, u => by simp [keptF, sizes]
  | c :: t, b, u => by
    simp only [keptF, sizes]
    split
    · omega
    · have h1 := kept_len t (c.done b u) (u - c.units)
      have h2 := done_len c b u
      omega
theorem stands_at {w : World} {ρ : Nat → Nat} {B D f : Nat} {F : Fil} (h : FilAt w ρ B D f F) (hs : Small F) :
    Calls Tryz.prog 44 #[.pointer (some ⟨D, 2 * f, none⟩)] w fun e w' => ∃ v', e = .returned v' ∧ RowO w' w.heap.size v' F.stands ∧ Below w.heap.size w w' := by
  obtain ⟨sv, lv, h1, h2, h3, h4⟩ := h
  exact stands_c D (2 * f) sv lv F.s F.l w h1 h2 h3.rdb h4.at (by have := hs.1; omega) hs.2

def roomF (d : Dk) : Int := max 0 (d.most - d.f0.stands.length - d.f1.stands.length)
theorem room_at {w : World} {ρ : Nat → Nat} {B D : Nat} {d : Dk} (h : DiskAt w ρ B D d) (h0 : Small d.f0) (h1 : Small d.f1) (hm0 : 0 ≤ d.most) (hm1 : d.most ≤ 4194304) :
    Calls Tryz.prog 16 #[.pointer (some ⟨D, 0, none⟩)] w fun e w' => e = .returned (.int .i64 (roomF d)) ∧ Below w.heap.size w w' := by
  have l0 := kept_len d.f0.l d.f0.s 9223372036854775807
  have l1 := kept_len d.f1.l d.f1.s 9223372036854775807
  refine room_c D d.f0.stands.length d.f1.stands.length d.most w h.most hm0 hm1 (by have := h0.1; unfold Fil.stands standsF; omega) (by have := h1.1; unfold Fil.stands standsF; omega) (fun W hW => ?_) (fun W hW => ?_)
  · refine (stands_at (h.keep hW).f0 h0).mono fun e w' ⟨v', he, hr, hb⟩ => ?_
    obtain ⟨p, cap, hv⟩ := hr.shape
    exact ⟨p, cap, by rw [he, hv], hb⟩
  · refine (stands_at (h.keep hW).f1 h1).mono fun e w' ⟨v', he, hr, hb⟩ => ?_
    obtain ⟨p, cap, hv⟩ := hr.shape
    exact ⟨p, cap, by rw [he, hv], hb⟩

set_option maxRecDepth 100000 in
theorem read_at {w : World} {ρ : Nat → Nat} {B D : Nat} {d : Dk} (h : DiskAt w ρ B D d) (f : Nat) (F : Fil) (hF : FilAt w ρ B D f F) (hf : f < 2) (hs : Small F) (hoff : d.off = false) :
    Calls Tryz.prog 24 #[.pointer (some ⟨D, 0, none⟩), .int .i64 f] w fun e w' => ∃ v', e = .returned (.tuple #[v', .int .i64 0]) ∧ RowO w' w.heap.size v' F.stands ∧ Below w.heap.size w w' := by
  have km := may_c D d.off f w h.off
  rw [hoff, show mayv false f = 0 by unfold mayv; rw [if_neg (by simp), if_neg (by omega)]] at km
  have ks := stands_at hF hs
  rw [Nat.mul_comm 2 f] at ks
  have f0 : (0 : Int) ≤ f := by omega
  have f1 : (f : Int) < 2 := by omega
  go_enter Tryz.func24, Tryz.ntmps24
  go_wp2_with (first | (go_at_call 45; with_reducible refine km.mono ?_; rintro e w1 ⟨rfl, rfl⟩) | (go_at_call 44; with_reducible refine ks.mono ?_; rintro e w2 ⟨v', rfl, hr, hb⟩))
  go_ret2
  exact ⟨_, rfl, hr, hb⟩
/-- a call of a disk that is off, or of no file -/
theorem read_no {w : World} {ρ : Nat → Nat} {B D : Nat} {d : Dk} (h : DiskAt w ρ B D d) (f : Int) (hm : mayv d.off f ≠ 0) :
    Calls Tryz.prog 24 #[.pointer (some ⟨D, 0, none⟩), .int .i64 f] w fun e w' => e = .returned (.tuple #[.slice none 0 0, .int .i64 (mayv d.off f)]) ∧ w' = w := by
  have km := may_c D d.off f w h.off
  generalize mayv d.off f = z at km hm
  go_enter Tryz.func24, Tryz.ntmps24
  go_wp2_with (first | (go_at_call 45; with_reducible refine km.mono ?_; rintro e w1 ⟨rfl, rfl⟩))
  go_ret2
  exact ⟨rfl, rfl⟩
theorem off_at {w : World} {ρ : Nat → Nat} {B D : Nat} {d : Dk} (h : DiskAt w ρ B D d) (hoff : d.off = false) :
    Calls Tryz.prog 17 #[.pointer (some ⟨D, 0, none⟩)] w fun e w' => e = .returned (.int .i64 0) ∧ w' = w.setCell ⟨D, 5, none⟩ (.bool true) := by
  have km := may_c D d.off 0 w h.off
  rw [hoff, show mayv false 0 = 0 from rfl] at km
  have c5 := h.off
  have z5 := h.fz 5
  go_enter Tryz.func17, Tryz.ntmps17
  go_wp2_with (first | (go_at_call 45; with_reducible refine km.mono ?_; rintro e w1 ⟨rfl, rfl⟩))
  go_ret
  exact ⟨rfl, rfl⟩
theorem off_no {w : World} {ρ : Nat → Nat} {B D : Nat} {d : Dk} (h : DiskAt w ρ B D d) (hoff : d.off = true) :
    Calls Tryz.prog 17 #[.pointer (some ⟨D, 0, none⟩)] w fun e w' => e = .returned (.int .i64 8) ∧ w' = w := by
  have km := may_c D d.off 0 w h.off
  rw [hoff, show mayv true 0 = 8 from rfl] at km
  go_enter Tryz.func17, Tryz.ntmps17
  go_wp2_with (first | (go_at_call 45; with_reducible refine km.mono ?_; rintro e w1 ⟨rfl, rfl⟩))
  go_ret
  exact ⟨rfl, rfl⟩
theorem fuse_at {w : World} {ρ : Nat → Nat} {B D : Nat} {d : Dk} (h : DiskAt w ρ B D d) (n : Int) (hoff : d.off = false) :
    Calls Tryz.prog 21 #[.pointer (some ⟨D, 0, none⟩), .int .i64 n] w fun e w' => e = .returned (.int .i64 0) ∧ w' = (w.setCell ⟨D, 6, none⟩ (.bool (decide (0 ≤ n)))).setCell ⟨D, 7, none⟩ (.int .i64 n) := by
  have km := may_c D d.off 0 w h.off
  rw [hoff, show mayv false 0 = 0 from rfl] at km
  have c6 := h.fused
  have z6 := h.fz 6
  have c7 := h.left
  have z7 := h.fz 7
  go_enter Tryz.func21, Tryz.ntmps21
  go_wp2_with (first | (go_at_call 45; with_reducible refine km.mono ?_; rintro e w1 ⟨rfl, rfl⟩))
  go_ret
  exact ⟨rfl, rfl⟩
theorem fuse_no {w : World} {ρ : Nat → Nat} {B D : Nat} {d : Dk} (h : DiskAt w ρ B D d) (n : Int) (hoff : d.off = true) :
    Calls Tryz.prog 21 #[.pointer (some ⟨D, 0, none⟩), .int .i64 n] w fun e w' => e = .returned (.int .i64 8) ∧ w' = w := by
  have km := may_c D d.off 0 w h.off
  rw [hoff, show mayv true 0 = 8 from rfl] at km
  go_enter Tryz.func21, Tryz.ntmps21
  go_wp2_with (first | (go_at_call 45; with_reducible refine km.mono ?_; rintro e w1 ⟨rfl, rfl⟩))
  go_ret
  exact ⟨rfl, rfl⟩
/-- the role of one block -/
def roleAt (D r : Nat) : Nat → Nat := fun k => if k = D then r else 0
theorem new_at (most : Int) (w : World) (h0 : 1 ≤ most) (h1 : most ≤ 4194304) :
    Calls Tryz.prog 6 #[.int .i64 most] w fun e w' => e = .returned (.tuple #[.pointer (some ⟨w.heap.size, 0, none⟩), .int .i64 0]) ∧ DiskAt w' (roleAt w.heap.size 1) w.heap.size w.heap.size ⟨⟨[], []⟩, ⟨[], []⟩, most, false, false, 0⟩ ∧ Below w.heap.size w w' := by
  go_enter Tryz.func6, Tryz.ntmps6
  go_wp2
  go_ret2
  refine ⟨rfl, ?_, bel_alloc (Below.refl _ _) _⟩
  have hc : ∀ o u, (#[Value.slice none 0 0, .slice none 0 0, .slice none 0 0, .slice none 0 0, .int .i64 most, .bool false, .bool false, .int .i64 0] : Array Value)[o]? = some u → (w.alloc (.cells #[.slice none 0 0, .slice none 0 0, .slice none 0 0, .slice none 0 0, .int .i64 most, .bool false, .bool false, .int .i64 0] 64)).cell? ⟨w.heap.size, o, none⟩ = some u := fun o u hu => by
    rw [cell_of_row _ _ o _ _ _ (heap_alloc_new _ _)]; exact hu
  have hlo : ∀ r, LoR (w.alloc (.cells #[.slice none 0 0, .slice none 0 0, .slice none 0 0, .slice none 0 0, .int .i64 most, .bool false, .bool false, .int .i64 0] 64)) (roleAt w.heap.size 1) w.heap.size r (.slice none 0 0) [] := fun r => ⟨[], World.ownsRow_nil _ _ _ _, fun g hg => by simp [Value.ownBlock] at hg, fun j hj => by simp at hj⟩
  refine ⟨Nat.le_refl _, by simp [roleAt], fun k hk => ?_, ⟨.slice none 0 0, .slice none 0 0, hc 0 _ rfl, hc 1 _ rfl, .inl ⟨rfl, rfl⟩, hlo _⟩, ⟨.slice none 0 0, .slice none 0 0, hc 2 _ rfl, hc 3 _ rfl, .inl ⟨rfl, rfl⟩, hlo _⟩, hc 4 _ rfl, hc 5 _ rfl, hc 6 _ rfl, hc 7 _ rfl, fun o => frozen_of_row _ _ o _ _ (heap_alloc_new _ _)⟩
  simp at hk
  unfold roleAt
  rw [if_neg (by omega)]
theorem new_no (most : Int) (w : World) (h : most < 1 ∨ 4194304 < most) :
    Calls Tryz.prog 6 #[.int .i64 most] w fun e w' => e = .returned (.tuple #[.pointer none, .int .i64 1]) ∧ w' = w := by
  by_cases h0 : most < 1
  · go_enter Tryz.func6, Tryz.ntmps6
    go_wp2
    go_ret2
    exact ⟨rfl, rfl⟩
  · have h1 : 4194304 < most := by omega
    go_enter Tryz.func6, Tryz.ntmps6
    go_wp2
    go_ret2
    exact ⟨rfl, rfl⟩
end Go.Proofs.YtfohemgfiidokaaGreatDoor
