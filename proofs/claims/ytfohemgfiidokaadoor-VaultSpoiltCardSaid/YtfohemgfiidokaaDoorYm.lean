/- What vault's look tells of a file. -/
import Derived.Test.YtfohemgfiidokaaDoorYl
namespace Go.Proofs.YtfohemgfiidokaaDoor
open Go.RowKit Go.Sort

/-- rows of bytes that the call has laid, from block B on -/
def FrL (w : World) (B : Nat) (v : Value) (ls : List (List Int)) : Prop :=
  ∃ vs : List Value, w.ownsRow B 35 1 v ls.length vs ∧ ∀ j (h : j < ls.length), ∃ u, vs[j]? = some u ∧ RowO w B u ls[j]
def fnd0 : Value := .agg #[.int .i64 0, .int .u64 0, .slice none 0 0, .int .i64 0]

set_option maxRecDepth 100000 in
theorem look_a (f : Int) (v : Value) (b : List Int) (w : World) (hv : RdB w v b) (h44 : b.length < 44) :
    Calls Tryd.prog 27 #[.int .i64 f, v] w fun e w' => e = .returned fnd0 ∧ RowKit.Below w.heap.size w w' := by
  obtain ⟨p, cap, rfl, hcap⟩ := hv.shape
  have hq : decide ((b.length : Int) < 44) = true := decide_eq_true (by omega)
  clear hv
  go_enter Tryd.func27, Tryd.ntmps27
  go_upto_region 1 with fail
  go_region
  all_goals go_wp2
  refine bodyPost_ret (v := fnd0) ?_ rfl ?_
  · simp [results, Tryd.f27, go_sem]
    rfl
  · exact ⟨rfl, (bel_alloc (RowKit.Below.refl _ _) _).drew⟩

/-- the parts of a file of 44 bytes and more -/
structure Parts (w : World) (v : Value) (b : List Int) (g o cap : Nat) : Prop where
  val : v = .slice (some ⟨g, o, none⟩) b.length cap
  cap : b.length ≤ cap
  rd : ∀ j z c, j + z ≤ b.length → z ≤ c → ∀ V, RowKit.Below w.heap.size w V → RdB V (.slice (some ⟨g, o + j, none⟩) z c) ((b.drop j).take z)
theorem RdB.parts {w : World} {v : Value} {b : List Int} (h : RdB w v b) (hl : 0 < b.length) : ∃ g o cap, Parts w v b g o cap := by
  rcases h with ⟨-, h2⟩ | ⟨a, g, o, cap, h1, h2, h3, h4⟩
  · rw [h2] at hl; simp at hl
  · have := h3 hl
    subst this
    exact ⟨g, o, cap, h1, h2, fun j z c h5 h6 V hV => (rd_part h4 h5 h6).keep hV⟩

set_option maxRecDepth 100000 in
set_option maxHeartbeats 1600000 in
theorem look_b (f : Int) (v : Value) (b : List Int) (w : World) (hv : RdB w v b) (hbb : Bytes b) (h44 : 44 ≤ b.length) (hl : b.length ≤ 10000000) (hk : KTab w) (hc : chk (b.take 12) ≠ (b.drop 12).take 32) :
    Calls Tryd.prog 27 #[.int .i64 f, v] w fun e w' => e = .returned fnd0 ∧ RowKit.Below w.heap.size w w' := by
  obtain ⟨g, o, cap, hp⟩ := hv.parts (by omega)
  obtain rfl := hp.val
  have hcap := hp.cap
  have hq : decide ((b.length : Int) < 44) = false := decide_eq_false (by omega)
  have h12 := hp.rd 0 12 cap (by omega) (by omega)
  rw [Nat.add_zero, List.drop_zero] at h12
  have h32 := hp.rd 12 32 (cap - 12) (by omega) (by omega)
  have hch := fun V (hV : RowKit.Below w.heap.size w V) => check_c (.slice (some ⟨g, o, none⟩) 12 cap) (b.take 12) V (h12 V hV) (hbb.take 12) (by rw [List.length_take]; omega) (hk.call hV)
  have heq := fun V v (h1 : RdB V v (chk (b.take 12))) (hV : RowKit.Below w.heap.size w V) => equal_c v (.slice (some ⟨g, o + 12, none⟩) 32 (cap - 12)) _ _ V h1 (h32 V hV) (chk_bytes _) ((hbb.drop 12).take 32)
  rw [show (chk (b.take 12) == (b.drop 12).take 32) = false by rw [beq_eq_false_iff_ne]; exact hc] at heq
  generalize chk (b.take 12) = q at *
  have HC := Lib.hid hch; have HE := Lib.hid heq
  have hcn : ¬ cap = 12 := by omega
  have hx1 : (12 : Int) ≤ cap := by omega
  have hx2 : (44 : Int) ≤ cap := by omega
  have hge : (44 : Int) ≤ b.length := by omega
  have hn44 : 44 ≤ b.length := h44
  clear hch heq h12 h32 hp hc hv hk h44
  go_enter Tryd.func27, Tryd.ntmps27
  go_upto_region 1 with fail
  refine wp_gen (fun W => RowV 70 w.heap.size [.int .i64 0, .int .u64 0, .slice none 0 0, .int .i64 0] W ∧ RowKit.Below w.heap.size w W) ⟨heap_alloc_new w _, bel_alloc (RowKit.Below.refl _ _) _⟩ ?_
  rintro W ⟨hrow, hbw⟩
  have hb0 : RowKit.Below w.heap.size w W.drew := hbw.drew
  go_region_held3 (fun _ => True) (trivial) (first
    | (go_at_call 58; (with_reducible refine (HC.out _ hb0).mono ?_); rintro e w1 ⟨v1, rfl, hr1, hb1⟩; have hb2 := bel_call hb0 hb1)
    | (go_at_call 57; (with_reducible refine (HE.out _ _ hr1 hb2).mono ?_); rintro e w2 ⟨rfl, rfl⟩))
  have hrow1 : RowV 70 w.heap.size [.int .i64 0, .int .u64 0, .slice none 0 0, .int .i64 0] w2 := RowV.call (w := W.drew) hrow hb1
  have c0 := hrow1.cell 0
  have c1 := hrow1.cell 1
  have c2 := hrow1.cell 2
  have c3 := hrow1.cell 3
  have z := hrow1.frozen
  go_wp2
  refine bodyPost_ret (v := fnd0) ?_ rfl ?_
  · have hr5 := (((hrow1.set 0 (.int .i64 0)).set 1 (.int .u64 0)).set 2 (.slice none 0 0)).set 3 (.int .i64 0)
    have d0 := hr5.cell 0
    have d1 := hr5.cell 1
    have d2 := hr5.cell 2
    have d3 := hr5.cell 3
    simp only [List.set_cons_zero, List.set_cons_succ, List.getElem?_cons_zero, List.getElem?_cons_succ] at d0 d1 d2 d3
    simp [results, Tryd.f27, go_sem, d0, d1, d2, d3]
    rfl
  · exact ⟨rfl, (((hb2.setCell (p := ⟨w.heap.size, 0, none⟩) (Nat.le_refl _) _).setCell (p := ⟨w.heap.size, 1, none⟩) (Nat.le_refl _) _).setCell (p := ⟨w.heap.size, 2, none⟩) (Nat.le_refl _) _).setCell (p := ⟨w.heap.size, 3, none⟩) (Nat.le_refl _) _⟩

set_option maxRecDepth 100000 in
set_option maxHeartbeats 1600000 in
theorem look_c (f : Int) (v : Value) (b : List Int) (w : World) (hv : RdB w v b) (hbb : Bytes b) (h44 : 44 ≤ b.length) (hl : b.length ≤ 10000000) (hk : KTab w) (hc : chk (b.take 12) = (b.drop 12).take 32)
    (hbad : ofBytes (b.take 8) < 1 ∨ 4611686018427387904 < ofBytes (b.take 8) ∨ ofBytes (b.take 8) % 2 ≠ f) :
    Calls Tryd.prog 27 #[.int .i64 f, v] w fun e w' => e = .returned fnd0 ∧ RowKit.Below w.heap.size w w' := by
  obtain ⟨g, o, cap, hp⟩ := hv.parts (by omega)
  obtain rfl := hp.val
  have hcap := hp.cap
  have hq : decide ((b.length : Int) < 44) = false := decide_eq_false (by omega)
  have h12 := hp.rd 0 12 cap (by omega) (by omega)
  have h8 := hp.rd 0 8 cap (by omega) (by omega)
  rw [Nat.add_zero, List.drop_zero] at h12 h8
  have h32 := hp.rd 12 32 (cap - 12) (by omega) (by omega)
  have hch := fun V (hV : RowKit.Below w.heap.size w V) => check_c (.slice (some ⟨g, o, none⟩) 12 cap) (b.take 12) V (h12 V hV) (hbb.take 12) (by rw [List.length_take]; omega) (hk.call hV)
  have heq := fun V v (h1 : RdB V v (chk (b.take 12))) (hV : RowKit.Below w.heap.size w V) => equal_c v (.slice (some ⟨g, o + 12, none⟩) 32 (cap - 12)) _ _ V h1 (h32 V hV) (chk_bytes _) ((hbb.drop 12).take 32)
  rw [show (chk (b.take 12) == (b.drop 12).take 32) = true by rw [beq_iff_eq]; exact hc] at heq
  have hnum := fun V (hV : RowKit.Below w.heap.size w V) => number_c (.slice (some ⟨g, o, none⟩) 8 cap) (b.take 8) V (h8 V hV) (hbb.take 8) (by rw [List.length_take]; omega)
  have hbd := ofBytes_bd _ (hbb.take 8)
  rw [show (b.take 8).length = 8 by rw [List.length_take]; omega] at hbd
  generalize chk (b.take 12) = q at *
  generalize ofBytes (b.take 8) = gg at *
  have HC := Lib.hid hch; have HE := Lib.hid heq; have HN := Lib.hid hnum
  have hcn : ¬ cap = 12 := by omega
  have hx1 : (12 : Int) ≤ cap := by omega
  have hx2 : (44 : Int) ≤ cap := by omega
  have hge : (44 : Int) ≤ b.length := by omega
  have hx3 : (8 : Int) ≤ cap := by omega
  have hn44 : 44 ≤ b.length := h44
  have HB := Lib.hid hbad; have HD := Lib.hid hbd
  clear hch heq h12 h32 h8 hp hc hv hk h44 hnum hbad hbd
  go_enter Tryd.func27, Tryd.ntmps27
  go_upto_region 1 with fail
  refine wp_gen (fun W => RowV 70 w.heap.size [.int .i64 0, .int .u64 0, .slice none 0 0, .int .i64 0] W ∧ RowKit.Below w.heap.size w W) ⟨heap_alloc_new w _, bel_alloc (RowKit.Below.refl _ _) _⟩ ?_
  rintro W ⟨hrow, hbw⟩
  have hb0 : RowKit.Below w.heap.size w W.drew := hbw.drew
  go_region_held3 (fun _ => True) (trivial) (first
    | (go_at_call 58; (with_reducible refine (HC.out _ hb0).mono ?_); rintro e w1 ⟨v1, rfl, hr1, hb1⟩; have hb2 := bel_call hb0 hb1)
    | (go_at_call 57; (with_reducible refine (HE.out _ _ hr1 hb2).mono ?_); rintro e w2 ⟨rfl, rfl⟩))
  have hrow1 : RowV 70 w.heap.size [.int .i64 0, .int .u64 0, .slice none 0 0, .int .i64 0] w2 := RowV.call (w := W.drew) hrow hb1
  go_upto_region 4 with (go_at_call 59; (with_reducible refine (HN.out _ hb2).mono ?_); rintro e w3 ⟨rfl, hw3⟩; obtain rfl := hw3.symm)
  refine wp_gen (fun W3 => RowV 70 w2.heap.size [.int .i64 f, .int .u64 gg, .slice none 0 0, .int .i64 44] W3 ∧ RowV 70 w.heap.size [.int .i64 0, .int .u64 0, .slice none 0 0, .int .i64 0] W3 ∧ RowKit.Below w.heap.size w W3) ⟨heap_alloc_new w2 _, hrow1.alloc _, bel_alloc hb2 _⟩ ?_
  clear hrow hrow1 hr1 hb1
  rintro W3 ⟨r0, r1, hb3⟩
  have x1 := r0.cell 1
  simp only [List.getElem?_cons_zero, List.getElem?_cons_succ] at x1
  have c0 := r1.cell 0
  have c1 := r1.cell 1
  have c2 := r1.cell 2
  have c3 := r1.cell 3
  have z := r1.frozen
  by_cases h1 : gg < 1
  · have hd1 : decide (gg < 1) = true := decide_eq_true h1
    go_wp2
    refine bodyPost_ret (v := fnd0) ?_ rfl ?_
    · have hr5 := (((r1.set 0 (.int .i64 0)).set 1 (.int .u64 0)).set 2 (.slice none 0 0)).set 3 (.int .i64 0)
      have d0 := hr5.cell 0
      have d1 := hr5.cell 1
      have d2 := hr5.cell 2
      have d3 := hr5.cell 3
      simp only [List.set_cons_zero, List.set_cons_succ, List.getElem?_cons_zero, List.getElem?_cons_succ] at d0 d1 d2 d3
      simp [results, Tryd.f27, go_sem, d0, d1, d2, d3]
      rfl
    · exact ⟨rfl, (((hb3.setCell (p := ⟨w.heap.size, 0, none⟩) (Nat.le_refl _) _).setCell (p := ⟨w.heap.size, 1, none⟩) (Nat.le_refl _) _).setCell (p := ⟨w.heap.size, 2, none⟩) (Nat.le_refl _) _).setCell (p := ⟨w.heap.size, 3, none⟩) (Nat.le_refl _) _⟩
  have hd1 : decide (gg < 1) = false := decide_eq_false h1
  by_cases h2 : 4611686018427387904 < gg
  · have hd2 : decide (4611686018427387904 < gg) = true := decide_eq_true h2
    go_wp2
    refine bodyPost_ret (v := fnd0) ?_ rfl ?_
    · have hr5 := (((r1.set 0 (.int .i64 0)).set 1 (.int .u64 0)).set 2 (.slice none 0 0)).set 3 (.int .i64 0)
      have d0 := hr5.cell 0
      have d1 := hr5.cell 1
      have d2 := hr5.cell 2
      have d3 := hr5.cell 3
      simp only [List.set_cons_zero, List.set_cons_succ, List.getElem?_cons_zero, List.getElem?_cons_succ] at d0 d1 d2 d3
      simp [results, Tryd.f27, go_sem, d0, d1, d2, d3]
      rfl
    · exact ⟨rfl, (((hb3.setCell (p := ⟨w.heap.size, 0, none⟩) (Nat.le_refl _) _).setCell (p := ⟨w.heap.size, 1, none⟩) (Nat.le_refl _) _).setCell (p := ⟨w.heap.size, 2, none⟩) (Nat.le_refl _) _).setCell (p := ⟨w.heap.size, 3, none⟩) (Nat.le_refl _) _⟩
  have hd2 : decide (4611686018427387904 < gg) = false := decide_eq_false h2
  have h3 : (gg % 2 == f) = false := by
    rw [beq_eq_false_iff_ne]
    rcases HB.out with h | h | h
    · exact absurd h h1
    · exact absurd h h2
    · exact h
  have hw2 : IntKind.i64.wrap (gg % 2) = gg % 2 := by rw [IntKind.wrap_i64]; omega
  have hg0 : 0 ≤ gg := by omega
  clear h1 h2
  go_wp2
  refine bodyPost_ret (v := fnd0) ?_ rfl ?_
  · have hr5 := (((r1.set 0 (.int .i64 0)).set 1 (.int .u64 0)).set 2 (.slice none 0 0)).set 3 (.int .i64 0)
    have d0 := hr5.cell 0
    have d1 := hr5.cell 1
    have d2 := hr5.cell 2
    have d3 := hr5.cell 3
    simp only [List.set_cons_zero, List.set_cons_succ, List.getElem?_cons_zero, List.getElem?_cons_succ] at d0 d1 d2 d3
    simp [results, Tryd.f27, go_sem, d0, d1, d2, d3]
    rfl
  · exact ⟨rfl, (((hb3.setCell (p := ⟨w.heap.size, 0, none⟩) (Nat.le_refl _) _).setCell (p := ⟨w.heap.size, 1, none⟩) (Nat.le_refl _) _).setCell (p := ⟨w.heap.size, 2, none⟩) (Nat.le_refl _) _).setCell (p := ⟨w.heap.size, 3, none⟩) (Nat.le_refl _) _⟩
end Go.Proofs.YtfohemgfiidokaaDoor
