/- What a file keeps: the walk of (*file).kept. -/
import Derived.Test.YtfohemgfiidokaaDa
namespace Go.Proofs.Ytfohemgfiidokaa
open Go.RowKit Go.Sort

inductive Chg where
  | wr (b : List Int)
  | ct (n : Int)
def Chg.units : Chg → Int
  | .wr b => b.length
  | .ct _ => 1
def Chg.done (b : List Int) (n : Int) : Chg → List Int
  | .wr c => b ++ c.take n.toNat
  | .ct k => b.take k.toNat
def Chg.size : Chg → Nat
  | .wr b => b.length
  | .ct _ => 0
def keptF (b : List Int) (u : Int) : List Chg → List Int
  | [] => b
  | c :: t => if u ≤ 0 then b else keptF (c.done b u) (u - c.units) t
/-- a change in memory -/
def ChgAt (w : World) (u : Value) : Chg → Prop
  | .wr c => ∃ cv, u = .iface 79 (.agg #[cv]) ∧ RdB w cv c
  | .ct n => u = .iface 81 (.agg #[.int .i64 n]) ∧ 0 ≤ n
def LooseAt (w : World) (v : Value) (l : List Chg) : Prop :=
  (v = .slice none 0 0 ∧ l = []) ∨ ∃ g cap, v = .slice (some ⟨g, 0, none⟩) l.length cap ∧ ∀ j (h : j < l.length), ∃ u, w.cell? ⟨g, j, none⟩ = some u ∧ ChgAt w u l[j]
theorem ChgAt.keep {w w' : World} {u : Value} {c : Chg} (h : ChgAt w u c) (hb : Below w.heap.size w w') : ChgAt w' u c := by
  cases c with
  | wr c => obtain ⟨cv, h1, h2⟩ := h; exact ⟨cv, h1, h2.keep hb⟩
  | ct n => exact h
theorem LooseAt.keep {w w' : World} {v : Value} {l : List Chg} (h : LooseAt w v l) (hb : Below w.heap.size w w') : LooseAt w' v l := by
  rcases h with h | ⟨g, cap, h1, h2⟩
  · exact .inl h
  · refine .inr ⟨g, cap, h1, fun j hj => ?_⟩
    obtain ⟨u, h3, h4⟩ := h2 j hj
    exact ⟨u, by rw [hb.cell (block_lt_of_cell h3)]; exact h3, h4.keep hb⟩
def sizes : List Chg → Nat
  | [] => 0
  | c :: t => c.size + sizes t

theorem m_wdone (cv : Value) (w : World) : (method 206 79 (.agg #[cv]) "scantling/disk.done").run Try.prog w = .ok (60, .agg #[cv]) w := by kernel_rfl
theorem m_wunits (cv : Value) (w : World) : (method 206 79 (.agg #[cv]) "scantling/disk.units").run Try.prog w = .ok (61, .agg #[cv]) w := by kernel_rfl
theorem m_cdone (cv : Value) (w : World) : (method 206 81 (.agg #[cv]) "scantling/disk.done").run Try.prog w = .ok (62, .agg #[cv]) w := by kernel_rfl
theorem m_cunits (cv : Value) (w : World) : (method 206 81 (.agg #[cv]) "scantling/disk.units").run Try.prog w = .ok (63, .agg #[cv]) w := by kernel_rfl

set_option maxRecDepth 100000 in
set_option maxHeartbeats 1600000 in
theorem kept_c (D o : Nat) (sv lv : Value) (s : List Int) (l : List Chg) (u : Int) (w : World) (c0 : w.cell? ⟨D, o, none⟩ = some sv) (c1 : w.cell? ⟨D, o + 1, none⟩ = some lv)
    (hs : RdB w sv s) (hl : LooseAt w lv l) (hL : s.length + sizes l ≤ 1000000000) (hn : l.length ≤ 1000000000) (hu : -9223372036854775808 ≤ u) (hu' : u ≤ 9223372036854775807) :
    Calls Try.prog 43 #[.pointer (some ⟨D, o, none⟩), .int .i64 u] w fun e w' => ∃ v', e = .returned v' ∧ RowO w' w.heap.size v' (keptF s u l) ∧ Below w.heap.size w w' := by
  have kc := fun w h => clone_c sv s w h (by omega)
  go_enter Try.func43, Try.ntmps43
  go_upto_region 2 with (go_at_call 38; with_reducible refine (kc _ hs).mono ?_; rintro e w1 ⟨v', rfl, hr, hb⟩)
  have hs0 := hb.size
  have c1' : w1.cell? ⟨D, o + 1, none⟩ = some lv := by rw [hb.cell (block_lt_of_cell c1)]; exact c1
  have hl' := hl.keep hb
  obtain ⟨p, cap, rfl, hel⟩ : ∃ p cap, lv = .slice p l.length cap ∧ ∀ W, Below w.heap.size w W → ∀ j (h : j < l.length), ∃ g v, p = some ⟨g, 0, none⟩ ∧ W.cell? ⟨g, j, none⟩ = some v ∧ ChgAt W v l[j] := by
    rcases hl with ⟨rfl, rfl⟩ | ⟨g, cap, rfl, h2⟩
    · exact ⟨none, 0, rfl, fun W hW j h => by simp at h⟩
    · refine ⟨some ⟨g, 0, none⟩, cap, rfl, fun W hW j h => ?_⟩
      obtain ⟨v, h3, h4⟩ := h2 j h
      exact ⟨g, v, rfl, by rw [hW.cell (block_lt_of_cell h3)]; exact h3, h4.keep hW⟩
  clear c0 c1 hs hl hl' kc
  have HE := Lib.hid hel
  clear hel
  go_upto_region 3 with fail
  have hlen : l.length ≤ 1000000000 := hn
  go_loopw [1, 5, 18] (fun uv bv iv wr => ∃ (k : Nat) (b : List Int) (u' : Int), k ≤ l.length ∧ iv = .int .i64 k ∧ uv = .int .i64 u' ∧ RowO wr w.heap.size bv b ∧ keptF b u' (l.drop k) = keptF s u l ∧ b.length + sizes (l.drop k) ≤ 1000000000 ∧ -9223372036854775808 ≤ u' ∧ u' ≤ 9223372036854775807 ∧ Below w.heap.size w wr) (fun _ _ i _ => l.length - (intOf i).toNat)
  case atStart => exact ⟨0, s, u, by omega, rfl, rfl, hr, rfl, hL, hu, hu', hb⟩
  case round =>
    clear hr hb hs0 c1'
    obtain ⟨k, b, u', hk, rfl, rfl, hr, hkf, hsz, hu0, hu1, hb⟩ := hrel
    by_cases hlt : k < l.length
    · have hk0 : (0 : Int) ≤ k := by omega
      have hkl : (k : Int) < l.length := by omega
      obtain ⟨g, v, rfl, hcell, hch⟩ := HE.out wr hb k hlt
      have hdr : l.drop k = l[k] :: l.drop (k + 1) := List.drop_eq_getElem_cons hlt
      rw [hdr] at hkf hsz
      generalize l[k] = c at hch hkf hsz
      simp only [sizes] at hsz
      simp only [keptF] at hkf
      by_cases hu2 : u' ≤ 0
      · rw [if_pos hu2] at hkf
        have HK := Lib.hid hkf
        clear hkf hdr
        go_wp2
        go_ret
        exact ⟨_, rfl, by (rw [← HK.out]; exact hr), hb⟩
      · rw [if_neg hu2] at hkf
        have HK := Lib.hid hkf
        have HC := Lib.hid hch
        clear hkf hdr hch
        cases c with
        | wr c =>
          obtain ⟨cv, rfl, hrd⟩ := HC.out
          have m1 := m_wdone cv
          have m2 := m_wunits cv
          have hbs := hb.size
          have kd := wdone_c cv u5 c b w.heap.size u' wr hrd hr hbs (by omega) (by simp only [Chg.size] at hsz; omega)
          go_upto_region 7 with (go_at_call 60; with_reducible refine kd.mono ?_; rintro e w1 ⟨v2, rfl, hr2, hb2⟩)
          have hb3 : Below w.heap.size w w1 := hb.trans hb2
          have hs1 := hb3.size
          have ku := wunits_c cv c wr w1 hrd
          have hcl : (0 : Int) ≤ c.length := by omega
          have hsz' : b.length + (c.length + sizes (l.drop (k + 1))) ≤ 1000000000 := hsz
          have wu : IntKind.i64.wrap (u' - c.length) = u' - c.length := by rw [IntKind.wrap_i64]; omega
          clear kd m1 hr hcell hrd
          clear hb2 hb
          go_wp2_with (go_at_call 61; with_reducible refine ku.mono ?_; rintro e w2 ⟨rfl, hb4⟩)
          go_roundw
          case rel => exact ⟨k + 1, b ++ c.take u'.toNat, u' - c.length, by omega, by go_num, rfl, hr2.keep hb4, HK.out, by (rw [List.length_append, List.length_take]; omega), by omega, by omega, hb3.trans (hb4.mono hs1)⟩
          case measure => simp [intOf]; omega
        | ct n =>
          obtain ⟨rfl, hn0⟩ := HC.out
          have m1 := m_cdone (.int .i64 n)
          have m2 := m_cunits (.int .i64 n)
          have hbs := hb.size
          have kd := cdone_c n u' u5 b w.heap.size wr hr hbs (by omega) hn0
          go_upto_region 7 with (go_at_call 62; with_reducible refine kd.mono ?_; rintro e w1 ⟨v2, rfl, hr2, hb2⟩)
          have hb3 : Below w.heap.size w w1 := hb.trans hb2
          have hs1 := hb3.size
          have ku := cunits_c n w1
          have wu : IntKind.i64.wrap (u' - 1) = u' - 1 := by rw [IntKind.wrap_i64]; omega
          clear kd m1 hr hcell
          clear hb2 hb
          go_wp2_with (go_at_call 63; with_reducible refine ku.mono ?_; rintro e w2 ⟨rfl, hb4⟩)
          go_roundw
          case rel => exact ⟨k + 1, b.take n.toNat, u' - 1, by omega, by go_num, rfl, hr2.keep hb4, HK.out, by (rw [List.length_take]; simp only [Chg.size] at hsz; omega), by omega, by omega, hb3.trans (hb4.mono hs1)⟩
          case measure => simp [intOf]; omega
    · have hkk : k = l.length := by omega
      subst hkk
      rw [List.drop_length] at hkf
      have HK := Lib.hid hkf
      clear hkf
      go_wp2
      go_ret
      exact ⟨_, rfl, by (rw [← HK.out]; exact hr), hb⟩
end Go.Proofs.Ytfohemgfiidokaa
