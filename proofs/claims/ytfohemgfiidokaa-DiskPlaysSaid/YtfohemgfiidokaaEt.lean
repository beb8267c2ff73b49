/- Heavy, and the law's change. -/
import Derived.Test.YtfohemgfiidokaaEs
namespace Go.Proofs.Ytfohemgfiidokaa
open Go.RowKit Go.Sort diskKeeps

def hvF : Nat → List StepD → Nat
  | n, [] => n
  | n, s :: t => if 8192 < n then n else hvF (n + 16 + s.B.length + s.pl) t
theorem StepCells.keep {w W : World} {g o j : Nat} {s : StepD} (h : StepCells w g o j s) (hb : Below w.heap.size w W) : StepCells W g o j s := by
  obtain ⟨h0, h1, h2, h3, h4⟩ := h
  have k : ∀ q v, w.cell? ⟨g, q, none⟩ = some v → W.cell? ⟨g, q, none⟩ = some v := fun q v e => by rw [hb.cell (block_lt_of_cell e)]; exact e
  exact ⟨k _ _ h0, k _ _ h1, k _ _ h2, k _ _ h3, k _ _ h4⟩

set_option maxRecDepth 100000 in
set_option maxHeartbeats 1600000 in
theorem heavy_c (p : Option Addr) (cap : Nat) (L : List StepD) (w : World) (hs : StepsIn w p L) (hl : L.length ≤ 10000000000000) :
    Calls Try.prog 8 #[.slice p L.length cap] w fun e w' => e = .returned (.bool (decide (8192 < hvF 0 L))) ∧ Below w.heap.size w w' := by
  have HS := Lib.hid hs
  clear hs
  go_enter Try.func8, Try.ntmps8
  go_wp2_with fail
  go_loopw [3, 4] (fun nv iv wr => ∃ (k n : Nat), k ≤ L.length ∧ iv = .int .i64 k ∧ nv = .int .i64 n ∧ n ≤ 3000000000000000 ∧ hvF n (L.drop k) = hvF 0 L ∧ Below w.heap.size w wr) (fun _ i _ => L.length - (intOf i).toNat)
  case atStart => exact ⟨0, 0, by omega, rfl, rfl, by omega, rfl, Below.refl _ _⟩
  case round =>
    obtain ⟨k, n, hk, rfl, rfl, hn, hv, hb⟩ := hrel
    have k0 : (0 : Int) ≤ k := by omega
    have n0 : (0 : Int) ≤ n := by omega
    have n1 : (n : Int) ≤ 3000000000000000 := by omega
    by_cases hkl : k < L.length
    · have hkl' : (k : Int) < L.length := by omega
      have hdr : L.drop k = L[k] :: L.drop (k + 1) := List.drop_eq_getElem_cons hkl
      rw [hdr] at hv
      simp only [hvF] at hv
      by_cases hn8 : n ≤ 8192
      · have hn8' : (n : Int) ≤ 8192 := by omega
        rw [if_neg (by omega)] at hv
        obtain ⟨g, o, rfl, hc, hok⟩ := HS.out k hkl
        have hc2 := hc.keep hb
        clear hc
        generalize L[k] = s at hv hc2 hok
        obtain ⟨a, F, N, B, bv, pp, pl, pc, pk⟩ := s
        obtain ⟨pb, cb, hbv⟩ := hok.b.shape
        simp only at hbv
        subst hbv
        obtain ⟨c0, c1, c2, c3, c4⟩ := hc2
        simp only at c3 c4 hv
        have hbl : B.length ≤ 1000000000000000 := hok.bl
        have hpz : pl ≤ 1000000000000000 := hok.pz
        have HV := Lib.hid hv
        clear hv hdr hok c0 c1 c2
        have g0 : IntKind.i64.wrap ((n : Int) + 16) = (n : Int) + 16 := by rw [IntKind.wrap_i64]; omega
        have g1 : IntKind.i64.wrap ((n : Int) + 16 + (B.length : Int)) = (n : Int) + 16 + (B.length : Int) := by rw [IntKind.wrap_i64]; omega
        have g2 : IntKind.i64.wrap ((n : Int) + 16 + (B.length : Int) + (pl : Int)) = (n : Int) + 16 + (B.length : Int) + (pl : Int) := by rw [IntKind.wrap_i64]; omega
        go_wp2_with fail
        go_quiet (fail)
        clear g0 g1 g2
        go_wp2_with fail
        go_roundw
        case rel => exact ⟨k + 1, n + 16 + B.length + pl, by omega, by go_num, by (congr 1), by omega, HV.out, bel_call hb (below_drewN wr nq)⟩
        case measure => simp [intOf]; omega
      · have hn8' : ¬ (n : Int) ≤ 8192 := by omega
        rw [if_pos (by omega)] at hv
        have HV := Lib.hid hv
        clear hv hdr
        have hd : decide ((8192 : Int) < n) = true := decide_eq_true (by omega)
        go_wp2_with fail
        go_ret
        exact ⟨by rw [← HV.out]; simp; omega, hb⟩
    · have hkk : k = L.length := by omega
      subst hkk
      rw [List.drop_length] at hv
      have HV := Lib.hid hv
      clear hv
      go_wp2_with fail
      go_ret
      refine ⟨congrArg (fun b => Ending.returned (.bool b)) (decide_eq_decide.2 ?_), hb⟩
      rw [← HV.out]
      simp only [hvF]
      omega
/-- what a list that is not heavy holds -/
def tot : List StepD → Nat
  | [] => 0
  | s :: t => 16 + s.B.length + s.pl + tot t
theorem hv_tot : ∀ (L : List StepD) (n : Nat), hvF n L ≤ 8192 → n + tot L ≤ 8192
  | [], n, h => by simpa [hvF, tot] using h
  | s :: t, n, h => by
    simp only [hvF] at h
    split at h
    · omega
    · have := hv_tot t _ h
      simp only [tot]; omega

def chg (d : Dk) (s : StepD) : Dk := if s.a % 2 = 0 then (d.write s.F s.B).2 else (d.cut s.F s.N).2
set_option maxRecDepth 100000 in
set_option maxHeartbeats 1600000 in
theorem change_c {w0 wi w : World} {A : List Nat} {D : Nat} {d : Dk} (h : NowV w0 A D d w) (ok : DOk d) (s : StepD) (hs : StepD.ok wi s) (hb : Below wi.heap.size wi w) (hlo : wi.heap.size ≤ w0.heap.size) (hbl : s.B.length ≤ 1000000000) :
    Calls Try.prog 20 #[.pointer (some ⟨D, 0, none⟩), s.val] w fun e w' => e = .returned undef ∧ NowT w0 A D (chg d s) w w' := by
  obtain ⟨a, F, N, B, bv, pp, pl, pc, pk⟩ := s
  obtain ⟨pb, cb, hbv⟩ := hs.b.shape
  simp only at hbv
  subst hbv
  have hrd : RdB wi (.slice pb B.length cb) B := hs.b
  have a0 : (0 : Int) ≤ a := hs.a0
  have a1 : a ≤ 255 := hs.a1
  show Calls Try.prog 20 #[_, .agg #[.int .u8 a, .int .i64 F, .int .i64 N, .slice pb B.length cb, .slice pp pl pc]] w fun e w' => e = .returned undef ∧ NowT w0 A D (if a % 2 = 0 then (d.write F B).2 else (d.cut F N).2) w w'
  clear hs
  have hbx : ∀ o, Below w.heap.size w (w.alloc o) := fun o => bel_alloc (Below.refl _ _) o
  by_cases he : a % 2 = 0
  · rw [if_pos he]
    have he' : (a % 2 == 0) = true := beq_iff_eq.2 he
    have kw := fun o => nowv_write (r := (d.write F B).1) (d' := (d.write F B).2) h (hbx o) ok F (.slice pb B.length cb) B (rdb_rdm hrd (bel_call hb (hbx o)) _ _ hlo) hbl rfl
    have hsz := fun o => (hbx o).size
    go_enter Try.func20, Try.ntmps20
    go_wp2_with fail
    refine (kw _).mono ?_
    rintro e w2 ⟨rfl, hn2, hs2, hA2⟩
    go_wp2_with fail
    go_end0
    exact ⟨rfl, hn2, Nat.le_trans (hsz _) hs2, fun b hbA => (hA2 b hbA).trans ((hbx _).block b (NowV.lt h hbA))⟩
  · rw [if_neg he]
    have he' : (a % 2 == 0) = false := beq_false_of_ne he
    have kw := fun o => nowv_cut (r := (d.cut F N).1) (d' := (d.cut F N).2) (h.keep (hbx o)) ok F N rfl
    have hsz := fun o => (hbx o).size
    go_enter Try.func20, Try.ntmps20
    go_wp2_with fail
    refine (kw _).mono ?_
    rintro e w2 ⟨rfl, hn2, hs2, hA2⟩
    go_wp2_with fail
    go_end0
    exact ⟨rfl, hn2, Nat.le_trans (hsz _) hs2, fun b hbA => (hA2 b hbA).trans ((hbx _).block b (NowV.lt h hbA))⟩
end Go.Proofs.Ytfohemgfiidokaa
