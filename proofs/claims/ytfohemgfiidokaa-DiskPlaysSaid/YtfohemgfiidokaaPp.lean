/- DiskPlays' plain law: the program's disk and the document's go alike. -/
import Derived.Test.YtfohemgfiidokaaRe
namespace Go.Proofs.Ytfohemgfiidokaa
open Go.RowKit Go.Sort diskKeeps

structure Rel (d : Dk) (r : Rk) (k m : Nat) : Prop where
  file : ∀ f, r.file f = d.file f
  most : r.most = d.most
  power : r.power = !d.off
  fz : d.fused = true → r.left = d.left ∧ 0 ≤ d.left ∧ d.left ≤ 9223372036854775807
  nf : d.fused = false → r.left < 0
  z : ∀ f, (d.file f).s.length + sizes (d.file f).l ≤ m
  l : ∀ f, (d.file f).l.length ≤ k
  m0 : 0 ≤ d.most
  m1 : d.most ≤ 4194304
theorem Rel.ok {d : Dk} {r : Rk} {k m : Nat} (h : Rel d r k m) (hk : k ≤ 1000000) (hm : m ≤ 1000000) : DOk d ∧ ROk r := by
  have z0 := h.z 0; have z1 := h.z 1; have l0 := h.l 0; have l1 := h.l 1; have a := h.m0; have b := h.m1; have c := h.most
  have f0 : r.f0 = d.f0 := h.file 0
  have f1 : r.f1 = d.f1 := h.file 1
  have s0 : Small d.f0 := ⟨Nat.le_trans z0 (by omega), Nat.le_trans l0 (by omega)⟩
  have s1 : Small d.f1 := ⟨Nat.le_trans z1 (by omega), Nat.le_trans l1 (by omega)⟩
  refine ⟨⟨s0, s1, a, b⟩, by rw [f0]; exact s0, by rw [f1]; exact s1, by omega, by omega, ?_⟩
  cases hf : d.fused
  · have := h.nf hf; omega
  · have := h.fz hf; omega
theorem Rel.stands {d : Dk} {r : Rk} {k m : Nat} (h : Rel d r k m) (hk : k ≤ 1000000) (hm : m ≤ 1000000) (f : Nat) : rstands (r.file f) = (d.file f).stands := by
  rw [h.file f]
  have hz := h.z f
  have hl := h.l f
  have hu := (units_nonneg (d.file f).l).2
  unfold rstands
  rw [refF_kept]
  exact keptF_big _ _ _ _ (by omega) (by omega)
theorem Rel.room {d : Dk} {r : Rk} {k m : Nat} (h : Rel d r k m) (hk : k ≤ 1000000) (hm : m ≤ 1000000) : rroomF r = roomF d := by
  have a : rstands r.f0 = d.f0.stands := h.stands hk hm 0
  have b : rstands r.f1 = d.f1.stands := h.stands hk hm 1
  unfold rroomF roomF
  rw [a, b, h.most]
theorem Rel.may {d : Dk} {r : Rk} {k m : Nat} (h : Rel d r k m) (f : Int) : rmay r.power f = mayv d.off f := by
  rw [h.power]
  unfold rmay mayv
  cases d.off
  · simp only [Bool.not_false]
    by_cases hf : f < 0 ∨ 2 ≤ f
    · rw [if_neg (by simp), if_pos (by omega), if_neg (by simp), if_pos hf]
    · rw [if_neg (by simp), if_neg (by omega), if_neg (by simp), if_neg hf]
  · simp
theorem Rel.up {d : Dk} {r : Rk} {k m k' m' : Nat} (h : Rel d r k m) (hk : k ≤ k') (hm : m ≤ m') : Rel d r k' m' := ⟨h.file, h.most, h.power, h.fz, h.nf, fun f => Nat.le_trans (h.z f) hm, fun f => Nat.le_trans (h.l f) hk, h.m0, h.m1⟩
theorem rset_file (d : Rk) (f j : Nat) (F : Fil) : (f = 0 ↔ j = 0) ∧ (d.setFile f F).file j = F ∨ ¬(f = 0 ↔ j = 0) ∧ (d.setFile f F).file j = d.file j := by
  rcases f with _ | f <;> rcases j with _ | j
  · exact .inl ⟨by simp, rfl⟩
  · exact .inr ⟨by simp, rfl⟩
  · exact .inr ⟨by simp, rfl⟩
  · exact .inl ⟨by simp, rfl⟩
theorem dset_file (d : Dk) (f j : Nat) (F : Fil) : (f = 0 ↔ j = 0) ∧ (d.setFile f F).file j = F ∨ ¬(f = 0 ↔ j = 0) ∧ (d.setFile f F).file j = d.file j := by
  rcases f with _ | f <;> rcases j with _ | j
  · exact .inl ⟨by simp, rfl⟩
  · exact .inr ⟨by simp, rfl⟩
  · exact .inr ⟨by simp, rfl⟩
  · exact .inl ⟨by simp, rfl⟩
theorem rset_flags (d : Rk) (f : Nat) (F : Fil) : (d.setFile f F).most = d.most ∧ (d.setFile f F).left = d.left ∧ (d.setFile f F).power = d.power := by rcases f with _ | f <;> exact ⟨rfl, rfl, rfl⟩
/-- the same file set in both -/
theorem Rel.setFile {d : Dk} {r : Rk} {k m : Nat} (h : Rel d r k m) (f : Nat) (F : Fil) (hz : F.s.length + sizes F.l ≤ m) (hl : F.l.length ≤ k) : Rel (d.setFile f F) (r.setFile f F) k m := by
  obtain ⟨a1, a2, a3, a4⟩ := set_flags d f F
  obtain ⟨b1, b2, b3⟩ := rset_flags r f F
  refine ⟨fun j => ?_, by rw [b1, a3]; exact h.most, by rw [b3, a1]; exact h.power, fun e => ?_, fun e => ?_, fun j => ?_, fun j => ?_, by rw [a3]; exact h.m0, by rw [a3]; exact h.m1⟩
  · rcases rset_file r f j F with ⟨e1, e2⟩ | ⟨e1, e2⟩ <;> rcases dset_file d f j F with ⟨e3, e4⟩ | ⟨e3, e4⟩
    · rw [e2, e4]
    · exact absurd e1 e3
    · exact absurd e3 e1
    · rw [e2, e4]; exact h.file j
  · rw [b2, a4]; exact h.fz (by rw [← a2]; exact e)
  · rw [b2]; exact h.nf (by rw [← a2]; exact e)
  · rcases dset_file d f j F with ⟨e3, e4⟩ | ⟨e3, e4⟩
    · rw [e4]; exact hz
    · rw [e4]; exact h.z j
  · rcases dset_file d f j F with ⟨e3, e4⟩ | ⟨e3, e4⟩
    · rw [e4]; exact hl
    · rw [e4]; exact h.l j
/-- a counted call -/
theorem Rel.goes {d : Dk} {r : Rk} {k m k' m' : Nat} (h : Rel d r k m) (g : Dk → Dk) (g' : Rk → Rk) (hk : k ≤ k') (hm : m ≤ m') (hg : Rel d.tick r.burn.2 k m → Rel (g d.tick) (g' r.burn.2) k' m') :
    (d.goes g).1 = (if r.burn.1 = true then 8 else 0) ∧ Rel (d.goes g).2 (if r.burn.1 = true then r.burn.2 else g' r.burn.2) k' m' := by
  unfold Dk.goes
  by_cases hb : d.fused = true ∧ d.left = 0
  · have hl := (h.fz hb.1).1
    have e : r.burn = (true, { r with power := false }) := by unfold Rk.burn; rw [if_pos (by omega)]
    rw [if_pos hb, e, if_pos rfl, if_pos rfl]
    exact ⟨rfl, (⟨h.file, h.most, rfl, h.fz, h.nf, h.z, h.l, h.m0, h.m1⟩ : Rel { d with off := true } { r with power := false } k m).up hk hm⟩
  · rw [if_neg hb]
    have e : r.burn.1 = false ∧ Rel d.tick r.burn.2 k m := by
      unfold Rk.burn
      cases hf : d.fused
      · have hn := h.nf hf
        rw [if_neg (by omega)]
        refine ⟨rfl, ?_⟩
        show Rel d.tick (if 0 < r.left then _ else r) k m
        rw [if_neg (by omega)]
        refine ⟨fun f => ?_, h.most, h.power, fun e => ?_, fun _ => hn, fun f => ?_, fun f => ?_, h.m0, h.m1⟩
        · rw [tick_file]; exact h.file f
        · have e' : d.fused = true := e
          rw [hf] at e'; cases e'
        · rw [tick_file]; exact h.z f
        · rw [tick_file]; exact h.l f
      · obtain ⟨h1, h2, h3⟩ := h.fz hf
        have hne : d.left ≠ 0 := fun e => hb ⟨hf, e⟩
        rw [if_neg (by omega)]
        refine ⟨rfl, ?_⟩
        show Rel d.tick (if 0 < r.left then { r with left := r.left - 1 } else r) k m
        rw [if_pos (by omega)]
        have hw : IntKind.i64.wrap (d.left - 1) = d.left - 1 := by rw [IntKind.wrap_i64]; omega
        refine ⟨fun f => ?_, h.most, h.power, fun _ => ?_, fun e => ?_, fun f => ?_, fun f => ?_, h.m0, h.m1⟩
        · rw [tick_file]; rcases f with _ | f; exact h.file 0; exact h.file 1
        · show r.left - 1 = IntKind.i64.wrap (d.left - 1) ∧ 0 ≤ IntKind.i64.wrap (d.left - 1) ∧ IntKind.i64.wrap (d.left - 1) ≤ _
          rw [hw]; omega
        · have e' : d.fused = false := e
          rw [hf] at e'; cases e'
        · rw [tick_file]; exact h.z f
        · rw [tick_file]; exact h.l f
    rw [e.1]
    exact ⟨by rw [if_neg (by simp)], by rw [if_neg (by simp)]; exact hg e.2⟩
theorem Rel.put {d : Dk} {r : Rk} {k m : Nat} (h : Rel d r k m) (f : Nat) (c : Chg) : Rel (d.put f c) (r.put f c) (k + 1) (m + c.size) := by
  have e : r.put f c = r.setFile f ⟨(d.file f).s, (d.file f).l ++ [c]⟩ := by unfold Rk.put; rw [h.file f]
  rw [e]
  have hz := h.z f
  have hl := h.l f
  refine (h.up (Nat.le_succ k) (Nat.le_add_right m c.size)).setFile f _ ?_ ?_
  · show (d.file f).s.length + sizes ((d.file f).l ++ [c]) ≤ _
    rw [sizes_snoc]; omega
  · show ((d.file f).l ++ [c]).length ≤ _
    simp; omega
theorem may_off {off : Bool} {f : Int} (h : mayv off f = 0) : off = false := (may_zero h).1
theorem Rel.write {d : Dk} {r : Rk} {k m : Nat} (h : Rel d r k m) (hk : k ≤ 1000000) (hm : m ≤ 1000000) (f : Int) (b : List Int) : (d.write f b).1 = (r.write f b).1 ∧ Rel (d.write f b).2 (r.write f b).2 (k + 1) (m + b.length) := by
  have same := h.up (Nat.le_succ k) (Nat.le_add_right m b.length)
  unfold Dk.write Rk.write
  rw [h.may f, h.room hk hm]
  by_cases hmv : mayv d.off f = 0
  · rw [if_neg (show ¬ mayv d.off f ≠ 0 by simp [hmv]), if_neg (show ¬ mayv d.off f ≠ 0 by simp [hmv])]
    by_cases hr : roomF d < b.length
    · rw [if_pos hr, if_pos hr]; exact ⟨rfl, same⟩
    · rw [if_neg hr, if_neg hr]
      have := h.goes (fun d => d.put f.toNat (.wr b)) (fun r => r.put f.toNat (.wr b)) (Nat.le_succ k) (Nat.le_add_right m b.length) (fun h2 => h2.put f.toNat (.wr b))
      cases hb : r.burn.1
      · rw [hb] at this; simpa using this
      · rw [hb] at this; simpa using this
  · rw [if_pos (show mayv d.off f ≠ 0 from hmv), if_pos (show mayv d.off f ≠ 0 from hmv)]; exact ⟨rfl, same⟩
theorem Rel.cut {d : Dk} {r : Rk} {k m : Nat} (h : Rel d r k m) (hk : k ≤ 1000000) (hm : m ≤ 1000000) (f n : Int) : (d.cut f n).1 = (r.cut f n).1 ∧ Rel (d.cut f n).2 (r.cut f n).2 (k + 1) m := by
  have same := h.up (Nat.le_succ k) (Nat.le_refl m)
  unfold Dk.cut Rk.cut
  rw [h.may f, h.stands hk hm]
  by_cases hmv : mayv d.off f = 0
  · rw [if_neg (show ¬ mayv d.off f ≠ 0 by simp [hmv]), if_neg (show ¬ mayv d.off f ≠ 0 by simp [hmv])]
    by_cases hr : n < 0 ∨ ((d.file f.toNat).stands.length : Int) < n
    · rw [if_pos hr, if_pos hr]; exact ⟨rfl, same⟩
    · rw [if_neg hr, if_neg hr]
      have := h.goes (fun d => d.put f.toNat (.ct n)) (fun r => r.put f.toNat (.ct n)) (Nat.le_succ k) (Nat.le_refl m) (fun h2 => h2.put f.toNat (.ct n))
      cases hb : r.burn.1
      · rw [hb] at this; simpa using this
      · rw [hb] at this; simpa using this
  · rw [if_pos (show mayv d.off f ≠ 0 from hmv), if_pos (show mayv d.off f ≠ 0 from hmv)]; exact ⟨rfl, same⟩
theorem Rel.sync {d : Dk} {r : Rk} {k m : Nat} (h : Rel d r k m) (hk : k ≤ 1000000) (hm : m ≤ 1000000) (f : Int) : (d.sync f).1 = (r.sync f).1 ∧ Rel (d.sync f).2 (r.sync f).2 k m := by
  unfold Dk.sync Rk.sync
  rw [h.may f, h.stands hk hm]
  have hst := stands_len (d.file f.toNat)
  have hz := h.z f.toNat
  by_cases hmv : mayv d.off f = 0
  · rw [if_neg (show ¬ mayv d.off f ≠ 0 by simp [hmv]), if_neg (show ¬ mayv d.off f ≠ 0 by simp [hmv])]
    have := h.goes (fun d => d.setFile f.toNat ⟨(d.file f.toNat).stands, []⟩) (fun r => r.setFile f.toNat ⟨(d.file f.toNat).stands, []⟩) (Nat.le_refl k) (Nat.le_refl m) (fun h2 => by
      simp only [tick_file]
      exact h2.setFile f.toNat _ (by show (d.file f.toNat).stands.length + sizes [] ≤ m; simp only [sizes]; omega) (by simp))
    cases hb : r.burn.1
    · rw [hb] at this; simpa using this
    · rw [hb] at this; simpa using this
  · rw [if_pos (show mayv d.off f ≠ 0 from hmv), if_pos (show mayv d.off f ≠ 0 from hmv)]; exact ⟨rfl, h⟩
theorem Rel.fuse {d : Dk} {r : Rk} {k m : Nat} (h : Rel d r k m) (n : Int) (hn : n ≤ 9223372036854775807) : (d.fuse n).1 = (r.fuse n).1 ∧ Rel (d.fuse n).2 (r.fuse n).2 k m := by
  unfold Dk.fuse Rk.fuse
  have hp := h.power
  cases ho : d.off
  · rw [ho] at hp
    rw [hp, if_neg (by simp), if_neg (by simp)]
    refine ⟨rfl, ⟨fun f => ?_, h.most, rfl, fun e => ?_, fun e => ?_, fun f => ?_, fun f => ?_, h.m0, h.m1⟩⟩
    · rcases f with _ | f; exact h.file 0; exact h.file 1
    · have : 0 ≤ n := of_decide_eq_true e
      exact ⟨show max n (-1) = n by omega, this, hn⟩
    · have : ¬ 0 ≤ n := of_decide_eq_false e
      show max n (-1) < 0
      omega
    · rcases f with _ | f; exact h.z 0; exact h.z 1
    · rcases f with _ | f; exact h.l 0; exact h.l 1
  · rw [ho] at hp
    rw [hp]
    exact ⟨rfl, h⟩
theorem Rel.offc {d : Dk} {r : Rk} {k m : Nat} (h : Rel d r k m) : d.offc.1 = r.offc.1 ∧ Rel d.offc.2 r.offc.2 k m := by
  unfold Dk.offc Rk.offc
  have hp := h.power
  cases ho : d.off
  · rw [ho] at hp
    rw [hp, if_neg (by simp), if_neg (by simp)]
    refine ⟨rfl, ⟨fun f => ?_, h.most, rfl, h.fz, h.nf, fun f => ?_, fun f => ?_, h.m0, h.m1⟩⟩
    · rcases f with _ | f; exact h.file 0; exact h.file 1
    · rcases f with _ | f; exact h.z 0; exact h.z 1
    · rcases f with _ | f; exact h.l 0; exact h.l 1
  · rw [ho] at hp
    rw [hp]
    exact ⟨rfl, h⟩
theorem Rel.onc {d : Dk} {r : Rk} {k m : Nat} (h : Rel d r k m) (pk : Nat → Int) : (d.onc pk).1 = (r.onc pk).1 ∧ Rel (d.onc pk).2 (r.onc pk).2 k m := by
  unfold Dk.onc Rk.onc
  have hp := h.power
  have f0 : r.f0 = d.f0 := h.file 0
  have f1 : r.f1 = d.f1 := h.file 1
  cases ho : d.off
  · rw [ho] at hp
    rw [hp, if_neg (show ¬ false = true by simp), if_pos (show (!false) = true from rfl)]
    exact ⟨rfl, h⟩
  · rw [ho] at hp
    rw [hp, if_pos (show true = true from rfl), if_neg (show ¬ (!true) = true by simp)]
    have e0 := kept_len d.f0.l d.f0.s (pk 0)
    have e1 := kept_len d.f1.l d.f1.s (pk 1)
    have z0 : d.f0.s.length + sizes d.f0.l ≤ m := h.z 0
    have z1 : d.f1.s.length + sizes d.f1.l ≤ m := h.z 1
    refine ⟨rfl, ⟨fun f => ?_, h.most, rfl, fun e => (by cases e), fun _ => (by show (-1 : Int) < 0; omega), fun f => ?_, fun f => ?_, h.m0, h.m1⟩⟩
    · rcases f with _ | f
      · show (⟨refF r.f0.s (pk 0) r.f0.l, []⟩ : Fil) = ⟨keptF d.f0.s (pk 0) d.f0.l, []⟩
        rw [refF_kept, f0]
      · show (⟨refF r.f1.s (pk 1) r.f1.l, []⟩ : Fil) = ⟨keptF d.f1.s (pk 1) d.f1.l, []⟩
        rw [refF_kept, f1]
    · rcases f with _ | f
      · show (keptF d.f0.s (pk 0) d.f0.l).length + sizes [] ≤ m
        simp only [sizes]; omega
      · show (keptF d.f1.s (pk 1) d.f1.l).length + sizes [] ≤ m
        simp only [sizes]; omega
    · rcases f with _ | f
      · show ([] : List Chg).length ≤ k; simp
      · show ([] : List Chg).length ≤ k; simp
end Go.Proofs.Ytfohemgfiidokaa
