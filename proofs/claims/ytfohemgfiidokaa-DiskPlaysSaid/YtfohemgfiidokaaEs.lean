/- Steps that came in: how they are opened. -/
import Derived.Test.YtfohemgfiidokaaFs
namespace Go.Proofs.Ytfohemgfiidokaa
open Go.ChangeShapes Go.WideShapes Go.ChangeAt Go.RowKit diskKeeps

structure StepD where
  a : Int
  F : Int
  N : Int
  B : List Int
  bv : Value
  pp : Option Addr
  pl : Nat
  pc : Nat
  pk : Nat → Int
instance : Inhabited StepD := ⟨⟨0, 0, 0, [], .slice none 0 0, none, 0, 0, fun _ => 0⟩⟩
def StepD.val (s : StepD) : Value := .agg #[.int .u8 s.a, .int .i64 s.F, .int .i64 s.N, s.bv, .slice s.pp s.pl s.pc]
structure StepD.ok (w : World) (s : StepD) : Prop where
  a0 : 0 ≤ s.a
  a1 : s.a ≤ 255
  f0 : -9223372036854775808 ≤ s.F
  f1 : s.F ≤ 9223372036854775807
  n0 : -9223372036854775808 ≤ s.N
  n1 : s.N ≤ 9223372036854775807
  b : RdB w s.bv s.B
  bl : s.B.length ≤ 1000000000000000
  p : PkIn w s.pp s.pl s.pk
  pz : s.pl ≤ 1000000000000000
/-- the cells of step j -/
def StepCells (w : World) (g o j : Nat) (s : StepD) : Prop :=
  w.cell? ⟨g, o + j * 5, none⟩ = some (.int .u8 s.a) ∧ w.cell? ⟨g, o + j * 5 + 1, none⟩ = some (.int .i64 s.F) ∧ w.cell? ⟨g, o + j * 5 + 2, none⟩ = some (.int .i64 s.N) ∧
    w.cell? ⟨g, o + j * 5 + 3, none⟩ = some s.bv ∧ w.cell? ⟨g, o + j * 5 + 4, none⟩ = some (.slice s.pp s.pl s.pc)
def StepsIn (w : World) (p : Option Addr) (L : List StepD) : Prop := ∀ j (h : j < L.length), ∃ g o, p = some ⟨g, o, none⟩ ∧ StepCells w g o j L[j] ∧ StepD.ok w L[j]

theorem bytes36 : Try.prog.bytesOf 36 = 72 := by kernel_rfl
theorem bytes3 : Try.prog.bytesOf 3 = 8 := by kernel_rfl
theorem RdB.len {w : World} {v : Value} {xs ys : List Int} (h : RdB w v xs) (k : RdB w v ys) : xs.length = ys.length := by
  obtain ⟨p, c, h1⟩ := h.shape
  obtain ⟨q, d, k1⟩ := k.shape
  rw [h1] at k1
  injection k1
theorem open_steps {H : Type} {enc : TypeId × Value → H} {w : World} {base b2 : Nat} {spare : Nat → Bool} {held : Bool} {r} {v : Value} {d : DataW H} {ps : List MemPlace}
    (ho : Value.okWide Try.prog w r b2 22 v) (h : DataW.Trod enc Try.prog w base spare held 22 v d ps) (hw : ∀ n ∈ d.weights Try.prog 22, n ≤ reachBytes) :
    ∃ p cap L, v = .slice p L.length cap ∧ StepsIn w p L ∧ L.length ≤ 10000000000000 := by
  have hr := reach_lt
  obtain ⟨p, len0, cap0, rfl⟩ := okWide_slice Try.underlying22 ho
  obtain ⟨fuel, hf⟩ := h
  have hf' : DataW.trod enc Try.prog w base spare held fuel 22 [.slice p len0 cap0] = some (d, ps) := hf
  rcases Deep.open_slice Try.underlying22 hf' with ⟨hcs, -⟩ | ⟨a, len, cap, m, n, D, Pl, hcs, hb, hlc, hm, hmm, hx, hel⟩
  · injection hcs with h1
    injection h1 with h2 h3 h4
    subst h2 h3 h4
    exact ⟨none, 0, [], rfl, fun j hj => by simp at hj, by simp⟩
  · injection hcs with h1
    injection h1 with h2 h3 h4
    subst h2 h3 h4
    have hlm : len0 ≤ m := by rw [hmm]; split <;> omega
    have hc5 : Try.prog.cellsOf 36 = 5 := by kernel_rfl
    have hx1 := congrArg Prod.fst hx
    simp only at hx1
    rw [hx1] at hw
    simp only [DataW.weights, Try.underlying22, bytes36] at hw
    have hlen := hw ((((List.range len0).map D).length + ((List.range (m - len0)).map fun j => D (len0 + j)).length) * 72) (by simp)
    have key : ∀ i, i < len0 → ∃ s : StepD, w.cell? (a.add (i * 5)) = some (.int .u8 s.a) ∧ w.cell? ((a.add (i * 5)).add 1) = some (.int .i64 s.F) ∧ w.cell? ((a.add (i * 5)).add 2) = some (.int .i64 s.N) ∧
        w.cell? ((a.add (i * 5)).add 3) = some s.bv ∧ w.cell? ((a.add (i * 5)).add 4) = some (.slice s.pp s.pl s.pc) ∧ StepD.ok w s := by
      intro i hi
      obtain ⟨cs', h5, h6⟩ := hel i (by omega)
      rw [hc5] at h5
      obtain ⟨-, hl5, hc⟩ := World.cells?_some h5
      obtain ⟨xs, n', -, hd, -, hxl, hfl⟩ := DataW.trod_struct Try.underlying36 h6
      have hwi : ∀ k ∈ (D i).weights Try.prog 36, k ≤ reachBytes := fun k hk => hw k (List.mem_cons_of_mem _ (List.mem_append_left _ (weights_mem_all (d := D i) (List.mem_map.2 ⟨i, by simpa using hi, rfl⟩) hk)))
      match cs', hl5 with
      | [v0, v1, v2, v3, v4], _ =>
        match xs, hxl with
        | [x0, x1, x2, x3, x4], _ =>
          have q0 := hfl 0 _ rfl
          have q1 := hfl 1 _ rfl
          have q2 := hfl 2 _ rfl
          have q3 := hfl 3 _ rfl
          have q4 := hfl 4 _ rfl
          simp only [List.getElem?_cons_zero, List.getElem?_cons_succ] at q0 q1 q2 q3 q4
          obtain ⟨z0, e0, -, w0⟩ := DataW.trod_int Try.underlying5 q0
          obtain ⟨z1, e1, -, w1⟩ := DataW.trod_int Try.underlying3 q1
          obtain ⟨z2, e2, -, w2⟩ := DataW.trod_int Try.underlying3 q2
          obtain ⟨vb, B, e3, hB, -, hB2⟩ := open_bytes_at q3
          obtain ⟨pp, pl, pc, pk, e4, hP, hP2⟩ := open_picks_at q4
          injection e0 with e0; injection e1 with e1; injection e2 with e2; injection e3 with e3; injection e4 with e4
          subst e0 e1 e2 e3 e4
          have b0 := bounds_u8 w0
          have b1 := bounds_i64 w1
          have b2 := bounds_i64 w2
          simp only [Prod.mk.injEq, List.map_cons, List.map_nil] at hd
          rw [hd.1] at hwi
          simp only [DataW.weights, Try.underlying36, DataW.weightsEach, List.map_cons, List.map_nil] at hwi
          have hBl : B.length ≤ 1000000000000000 := by
            rcases hB2 with hn | ⟨es, sp, he, hel⟩
            · rcases open_ints Try.underlying33 Try.underlying5 (by kernel_rfl) q3 with ⟨h9, -⟩ | ⟨_, _, _, _, -, -, -, -, -, h10, -⟩
              · injection h9 with h9
                have := RdB.len hB (show RdB w v3 [] from .inl ⟨h9, rfl⟩)
                rw [this]; simp
              · have := congrArg Prod.fst h10
                simp only at this
                rw [hn] at this
                cases this
            · have := hwi ((es.length + sp.length) * 1) (by
                rw [he]
                simp [DataW.weights, Try.underlying33, bytes5])
              omega
          have hPl : pl ≤ 1000000000000000 := by
            rcases hP2 with ⟨-, hn⟩ | ⟨es, sp, he, hel⟩
            · omega
            · have := hwi ((es.length + sp.length) * 8) (by
                rw [he]
                simp [DataW.weights, Try.underlying34, bytes3])
              omega
          refine ⟨⟨z0, z1, z2, B, v3, pp, pl, pc, pk⟩, ?_, ?_, ?_, ?_, ?_, ⟨b0.1, by have := b0.2; omega, b1.1, b1.2, b2.1, b2.2, hB, hBl, hP, hPl⟩⟩
          · have := hc 0 (by omega); simpa [Addr.add] using this
          · have := hc 1 (by omega); simpa using this
          · have := hc 2 (by omega); simpa using this
          · have := hc 3 (by omega); simpa using this
          · have := hc 4 (by omega); simpa using this
    obtain ⟨Ss, hS⟩ := Deep.choose_lt key
    have hLl : ((List.range len0).map Ss).length = len0 := by simp
    refine ⟨some a, cap0, (List.range len0).map Ss, by rw [hLl], fun j hj => ?_, by rw [hLl]; simp at hlen; omega⟩
    have hj' : j < len0 := by rw [hLl] at hj; exact hj
    obtain ⟨h0, h1, h2, h3, h4, h5⟩ := hS j hj'
    have hap : a = ⟨a.block, a.off, none⟩ := by
      have h00 := (hS 0 (by omega)).1
      rw [Nat.zero_mul] at h00
      exact addr_plain h00
    have hget : ((List.range len0).map Ss)[j] = Ss j := by simp
    rw [hap] at h0 h1 h2 h3 h4
    simp only [Addr.add_lit] at h0 h1 h2 h3 h4
    exact ⟨a.block, a.off, congrArg some hap, by rw [hget]; exact ⟨h0, h1, h2, h3, h4⟩, by rw [hget]; exact h5⟩
end Go.Proofs.Ytfohemgfiidokaa
