/- How great a disk may be; vault's cut. -/
import Derived.Test.YtfohemgfiidokaaGreatDoorYg
namespace Go.Proofs.YtfohemgfiidokaaGreatDoor
open Go.RowKit Go.Sort

theorem sizes_snoc (c : Chg) : ∀ l : List Chg, sizes (l ++ [c]) = sizes l + c.size
  | [] => by simp [sizes]
  | a :: t => by simp only [List.cons_append, sizes, sizes_snoc c t]; omega
theorem stands_len (F : Fil) : F.stands.length ≤ F.s.length + sizes F.l := kept_len F.l F.s _
/-- a file of up to k changes, of up to m bytes -/
def FSz (F : Fil) (k m : Nat) : Prop := F.s.length + sizes F.l ≤ m ∧ F.l.length ≤ k
structure DSz (d : Dk) (k m : Nat) : Prop where
  f : ∀ f, FSz (d.file f) k m
  m0 : 0 ≤ d.most
  m1 : d.most ≤ 4194304
theorem FSz.up {F : Fil} {k m k' m' : Nat} (h : FSz F k m) (hk : k ≤ k') (hm : m ≤ m') : FSz F k' m' := ⟨by have := h.1; omega, by have := h.2; omega⟩
theorem DSz.up {d : Dk} {k m k' m' : Nat} (h : DSz d k m) (hk : k ≤ k') (hm : m ≤ m') : DSz d k' m' := ⟨fun f => (h.f f).up hk hm, h.m0, h.m1⟩
theorem DSz.ok {d : Dk} {k m : Nat} (h : DSz d k m) (hk : k ≤ 1000000) (hm : m ≤ 100000000) : DOk d := by
  have h0 := h.f 0; have h1 := h.f 1
  exact ⟨⟨by have := h0.1; simp only [Dk.file] at this; omega, by have := h0.2; simp only [Dk.file] at this; omega⟩, ⟨by have := h1.1; simp only [Dk.file] at this; omega, by have := h1.2; simp only [Dk.file] at this; omega⟩, h.m0, h.m1⟩
theorem file_set (d : Dk) (f g : Nat) (F : Fil) (hf : f < 2) : (d.setFile f F).file g = if (f = 0 ↔ g = 0) then F else d.file g := by
  rcases f with _ | _ | f
  · rcases g with _ | g
    · rfl
    · rw [if_neg (by simp)]; rfl
  · rcases g with _ | g
    · rw [if_neg (by simp)]; rfl
    · rw [if_pos (by simp)]; rfl
  · omega
theorem set_most (d : Dk) (f : Nat) (F : Fil) : (d.setFile f F).most = d.most := by rcases f with _ | f <;> rfl
theorem DSz.setFile {d : Dk} {k m : Nat} (h : DSz d k m) (f : Nat) (F : Fil) (hf : f < 2) (hF : FSz F k m) : DSz (d.setFile f F) k m :=
  ⟨fun g => by rw [file_set d f g F hf]; split; exact hF; exact h.f g, by rw [set_most]; exact h.m0, by rw [set_most]; exact h.m1⟩
theorem DSz.tick {d : Dk} {k m : Nat} (h : DSz d k m) : DSz d.tick k m := ⟨fun f => by rw [tick_file]; exact h.f f, h.m0, h.m1⟩
theorem DSz.off {d : Dk} {k m : Nat} (h : DSz d k m) (b : Bool) : DSz { d with off := b } k m := ⟨fun f => by have := h.f f; rcases f with _ | f <;> exact this, h.m0, h.m1⟩
theorem DSz.goes {d : Dk} {k m k' m' : Nat} (h : DSz d k m) (g : Dk → Dk) (hk : k ≤ k') (hm : m ≤ m') (hg : DSz (g d.tick) k' m') : DSz (d.goes g).2 k' m' := by
  unfold Dk.goes
  split
  · exact (h.off true).up hk hm
  · exact hg
theorem DSz.put {d : Dk} {k m : Nat} (h : DSz d k m) (f : Nat) (hf : f < 2) (c : Chg) : DSz (d.put f c) (k + 1) (m + c.size) := by
  unfold Dk.put
  refine (h.up (k' := k + 1) (m' := m + c.size) (by omega) (by omega)).setFile f _ hf ?_
  have := h.f f
  refine ⟨?_, ?_⟩
  · show (d.file f).s.length + sizes ((d.file f).l ++ [c]) ≤ _
    rw [sizes_snoc]; have := this.1; omega
  · show ((d.file f).l ++ [c]).length ≤ _
    have := this.2
    simp; omega
theorem may_lt {off : Bool} {f : Int} (h : mayv off f = 0) : f.toNat < 2 := by
  obtain ⟨-, k, hk, rfl⟩ := may_zero h
  simpa using hk
theorem DSz.write {d : Dk} {k m : Nat} (h : DSz d k m) (f : Int) (b : List Int) : DSz (d.write f b).2 (k + 1) (m + b.length) := by
  unfold Dk.write
  split
  · exact h.up (by omega) (by omega)
  · rename_i hm
    split
    · exact h.up (by omega) (by omega)
    · exact h.goes _ (by omega) (by omega) (h.tick.put f.toNat (may_lt (by simpa using hm)) (.wr b))
theorem DSz.cut {d : Dk} {k m : Nat} (h : DSz d k m) (f n : Int) : DSz (d.cut f n).2 (k + 1) m := by
  unfold Dk.cut
  split
  · exact h.up (by omega) (by omega)
  · rename_i hm
    split
    · exact h.up (by omega) (by omega)
    · exact h.goes _ (by omega) (by omega) (h.tick.put f.toNat (may_lt (by simpa using hm)) (.ct n))
theorem DSz.sync {d : Dk} {k m : Nat} (h : DSz d k m) (f : Int) : DSz (d.sync f).2 k m := by
  unfold Dk.sync
  split
  · exact h
  · rename_i hm
    refine h.goes _ (by omega) (by omega) (h.tick.setFile f.toNat _ (may_lt (by simpa using hm)) ⟨?_, by simp⟩)
    show ((d.tick).file f.toNat).stands.length + sizes [] ≤ m
    rw [tick_file]
    have h1 := stands_len (d.file f.toNat)
    have h2 := (h.f f.toNat).1
    simp only [sizes]
    omega
/-- vault's cut -/
def Dk.vcut (d : Dk) (f n : Int) : Int × Dk := if mayv d.off f ≠ 0 then (mayv d.off f, d) else if ((d.file f.toNat).stands.length : Int) = n then (0, d) else d.cut f n
theorem DSz.vcut {d : Dk} {k m : Nat} (h : DSz d k m) (f n : Int) : DSz (d.vcut f n).2 (k + 1) m := by
  unfold Dk.vcut
  split
  · exact h.up (by omega) (by omega)
  · split
    · exact h.up (by omega) (by omega)
    · exact h.cut f n

set_option maxRecDepth 100000 in
theorem vcut_c {w : World} {ρ : Nat → Nat} {B D : Nat} {d : Dk} (h : DiskAt w ρ B D d) (ok : DOk d) (f n : Int) :
    Calls Tryz.prog 33 #[.pointer (some ⟨D, 0, none⟩), .int .i64 f, .int .i64 n] w fun e w' => e = .returned (.int .i64 (d.vcut f n).1) ∧ Left ρ B D w (d.vcut f n).2 w' := by
  unfold Dk.vcut
  by_cases hm : mayv d.off f = 0
  · rw [if_neg (by simp [hm])]
    obtain ⟨hoff, k, hk, rfl⟩ := may_zero hm
    rw [Int.toNat_natCast]
    have hr := read_at h k (d.file k) (h.file k hk) hk (ok.file k) hoff
    generalize (d.file k).stands = st at *
    by_cases hn : (st.length : Int) = n
    · subst hn
      rw [if_pos rfl]
      have HD := Lib.hid h
      go_enter Tryz.func33, Tryz.ntmps33
      go_wp2_with (go_at_call 24; with_reducible refine hr.mono ?_; rintro e w1 ⟨v1, rfl, hr1, hb1⟩; obtain ⟨p, cp, rfl⟩ := hr1.shape)
      go_ret
      exact ⟨rfl, Left.below HD.out hb1⟩
    · rw [if_neg hn]
      have hc := fun W (hb : Below w.heap.size w W) => cut_any (h.keep hb) ok k n
      have HN := Lib.hid hn
      have hq : ((st.length : Int) == n) = false := by rw [beq_eq_false_iff_ne]; exact hn
      generalize hg : d.cut k n = r at *
      have HD := Lib.hid h
      have HC := Lib.hid hc
      clear hn h hc
      go_enter Tryz.func33, Tryz.ntmps33
      go_wp2_with (first
        | (go_at_call 24; with_reducible refine hr.mono ?_; rintro e w1 ⟨v1, rfl, hr1, hb1⟩; obtain ⟨p, cp, rfl⟩ := hr1.shape)
        | (go_at_call 52; with_reducible refine (HC.out _ hb1).mono ?_; rintro e w2 ⟨rfl, hl2⟩))
      go_ret
      obtain ⟨ρ', h1, h2⟩ := hl2
      exact ⟨rfl, ρ', h1, (Mv.ofBelow ρ hb1).trans h2⟩
  · rw [if_pos (by simp [hm])]
    have hr := read_no h f hm
    generalize mayv d.off f = z at *
    have HD := Lib.hid h
    go_enter Tryz.func33, Tryz.ntmps33
    go_wp2_with (go_at_call 24; with_reducible refine hr.mono ?_; rintro e w1 ⟨rfl, rfl⟩)
    go_ret
    exact ⟨rfl, Left.below HD.out (Below.refl _ _)⟩
end Go.Proofs.YtfohemgfiidokaaGreatDoor
