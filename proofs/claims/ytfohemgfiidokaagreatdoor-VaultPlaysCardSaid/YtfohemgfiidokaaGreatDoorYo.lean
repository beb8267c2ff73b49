/- Plain: a vault's calls upon a disk; a disk's bytes are bytes; rows of bytes that nobody writes. -/
import Derived.Test.YtfohemgfiidokaaGreatDoorYn
namespace Go.Proofs.YtfohemgfiidokaaGreatDoor
open Go.RowKit Go.Sort

/-- all that a file has is bytes -/
def FilB (F : Fil) : Prop := Bytes F.s ∧ ∀ b, Chg.wr b ∈ F.l → Bytes b
structure DBy (d : Dk) : Prop where
  f : ∀ f, FilB (d.file f)
theorem kept_bytes : ∀ (l : List Chg) (s : List Int) (u : Int), Bytes s → (∀ b, Chg.wr b ∈ l → Bytes b) → Bytes (keptF s u l)
  | [], _, _, hs, _ => hs
  | c :: t, s, u, hs, hl => by
    rw [keptF]
    split
    · exact hs
    · refine kept_bytes t _ _ ?_ fun b hb => hl b (List.mem_cons_of_mem _ hb)
      cases c with
      | wr b => exact hs.append ((hl b (List.mem_cons_self ..)).take _)
      | ct n => exact hs.take _
theorem FilB.stands {F : Fil} (h : FilB F) : Bytes F.stands := kept_bytes _ _ _ h.1 h.2
theorem DBy.stands {d : Dk} (h : DBy d) (f : Nat) : Bytes (d.file f).stands := (h.f f).stands
theorem DBy.setFile {d : Dk} (h : DBy d) (f : Nat) (F : Fil) (hf : f < 2) (hF : FilB F) : DBy (d.setFile f F) := ⟨fun g => by rw [file_set d f g F hf]; split; exact hF; exact h.f g⟩
theorem DBy.tick {d : Dk} (h : DBy d) : DBy d.tick := ⟨fun f => by rw [tick_file]; exact h.f f⟩
theorem DBy.off {d : Dk} (h : DBy d) (b : Bool) : DBy { d with off := b } := ⟨fun f => by have := h.f f; rcases f with _ | f <;> exact this⟩
theorem DBy.goes {d : Dk} (h : DBy d) (g : Dk → Dk) (hg : DBy (g d.tick)) : DBy (d.goes g).2 := by
  unfold Dk.goes
  split
  · exact h.off true
  · exact hg
theorem DBy.put {d : Dk} (h : DBy d) (f : Nat) (hf : f < 2) (c : Chg) (hc : ∀ b, c = .wr b → Bytes b) : DBy (d.put f c) := by
  refine h.setFile f _ hf ⟨(h.f f).1, fun b hb => ?_⟩
  rcases List.mem_append.1 hb with hb | hb
  · exact (h.f f).2 b hb
  · exact hc b (List.mem_singleton.1 hb).symm
theorem DBy.write {d : Dk} (h : DBy d) (f : Int) (b : List Int) (hb : Bytes b) : DBy (d.write f b).2 := by
  unfold Dk.write
  split
  · exact h
  · rename_i hm
    split
    · exact h
    · exact h.goes _ (h.tick.put f.toNat (may_lt (by simpa using hm)) (.wr b) fun c e => by cases e; exact hb)
theorem DBy.cut {d : Dk} (h : DBy d) (f n : Int) : DBy (d.cut f n).2 := by
  unfold Dk.cut
  split
  · exact h
  · rename_i hm
    split
    · exact h
    · exact h.goes _ (h.tick.put f.toNat (may_lt (by simpa using hm)) (.ct n) fun c e => by cases e)
theorem DBy.vcut {d : Dk} (h : DBy d) (f n : Int) : DBy (d.vcut f n).2 := by
  unfold Dk.vcut
  split
  · exact h
  · split
    · exact h
    · exact h.cut f n
theorem DBy.sync {d : Dk} (h : DBy d) (f : Int) : DBy (d.sync f).2 := by
  unfold Dk.sync
  split
  · exact h
  · rename_i hm
    refine h.goes _ (h.tick.setFile f.toNat _ (may_lt (by simpa using hm)) ⟨?_, fun b hb => by simp at hb⟩)
    rw [tick_file]; exact h.stands _
theorem DBy.fuse {d : Dk} (h : DBy d) (n : Int) : DBy (d.fuse n).2 := by
  unfold Dk.fuse
  split
  · exact h
  · exact ⟨fun f => by have := h.f f; rcases f with _ | f <;> exact this⟩
theorem DBy.offc {d : Dk} (h : DBy d) : DBy d.offc.2 := by
  unfold Dk.offc
  split
  · exact h
  · exact h.off true
theorem DBy.onc {d : Dk} (h : DBy d) (pk : Nat → Int) : DBy (d.onc pk).2 := by
  unfold Dk.onc
  split
  · have h1 : DBy (d.on pk 1) := h.setFile 0 _ (by omega) ⟨kept_bytes _ _ _ (h.f 0).1 (h.f 0).2, fun b hb => by simp at hb⟩
    have h2 : DBy (d.on pk 2) := h1.setFile 1 _ (by omega) ⟨kept_bytes _ _ _ (h.f 1).1 (h.f 1).2, fun b hb => by simp at hb⟩
    exact ⟨fun f => by have := h2.f f; rcases f with _ | f <;> exact this⟩
  · exact h
theorem DSz.fuse {d : Dk} {k m : Nat} (h : DSz d k m) (n : Int) : DSz (d.fuse n).2 k m := by
  unfold Dk.fuse
  split
  · exact h
  · exact ⟨fun f => by have := h.f f; rcases f with _ | f <;> exact this, h.m0, h.m1⟩
theorem DSz.offc {d : Dk} {k m : Nat} (h : DSz d k m) : DSz d.offc.2 k m := by
  unfold Dk.offc
  split
  · exact h
  · exact h.off true
theorem DSz.onc {d : Dk} {k m : Nat} (h : DSz d k m) (pk : Nat → Int) : DSz (d.onc pk).2 k m := by
  unfold Dk.onc
  split
  · have hl : ∀ f, FSz ⟨keptF (d.file f).s (pk f) (d.file f).l, []⟩ k m := fun f => ⟨by
      have h1 := kept_len (d.file f).l (d.file f).s (pk f)
      have h2 := (h.f f).1
      show (keptF _ _ _).length + sizes [] ≤ m
      simp only [sizes]; omega, by simp⟩
    have h1 : DSz (d.on pk 1) k m := h.setFile 0 _ (by omega) (hl 0)
    have h2 : DSz (d.on pk 2) k m := h1.setFile 1 _ (by omega) (hl 1)
    exact ⟨fun f => by have := h2.f f; rcases f with _ | f <;> exact this, h2.m0, h2.m1⟩
  · exact h

theorem head_bytes (g n : Int) : Bytes (headI g n) := ((low_bytes g 8).append (low_bytes n 4)).append (chk_bytes _)
theorem frames_bytes (g : Int) : ∀ (l : List (List Int)) (k : Int), (∀ r ∈ l, Bytes r) → Bytes (framesI g k l)
  | [], _, _ => fun b hb => by simp [framesI] at hb
  | r :: t, k, h => by
    rw [framesI]
    exact (((low_bytes _ 4).append (h r (List.mem_cons_self ..))).append (chk_bytes _)).append (frames_bytes g t (k + 1) fun x hx => h x (List.mem_cons_of_mem _ hx))

/-- the best of two files so far -/
def genO : Option (Nat × Int × List (List Int)) → Int
  | none => 0
  | some (_, g, _) => g
def updI (b : Option (Nat × Int × List (List Int))) (f : Nat) : Option (Int × List (List Int)) → Option (Nat × Int × List (List Int))
  | none => b
  | some (g, ls) => if genO b < g then some (f, g, ls) else b
def bestN (d : Dk) : Nat → Option (Nat × Int × List (List Int))
  | 0 => none
  | k + 1 => updI (bestN d k) k (lookI k (d.file k).stands)
def openL (f : Nat) (good : Nat) : List (Dk → Int × Dk) := [fun d => d.vcut f good, fun d => d.sync f, fun d => d.vcut (1 - f) 0]
def Dk.openV (d : Dk) : Int × Dk × Option (Va × List (List Int)) :=
  if d.off = true then (8, d, none)
  else match bestN d 2 with
  | none => if d.begin.1 = 0 then (0, d.begin.2, some (⟨1, 1, 0, false⟩, [])) else (d.begin.1, d.begin.2, none)
  | some (f, g, ls) => if (seqD (openL f (44 + sizeI ls)) d).1 = 0 then (0, (seqD (openL f (44 + sizeI ls)) d).2, some (⟨f, g, ls.length, false⟩, ls)) else ((seqD (openL f (44 + sizeI ls)) d).1, (seqD (openL f (44 + sizeI ls)) d).2, none)
def addL (x : Va) (ls : List (List Int)) : List (Dk → Int × Dk) := [fun d => d.write x.file (framesI x.gen x.n ls), fun d => d.sync x.file]
def Dk.addV (d : Dk) (x : Va) (ls : List (List Int)) : Int × Dk × Va :=
  if vmayv x.broken ls ≠ 0 then (vmayv x.broken ls, d, x)
  else if roomF d < sizeI ls then (7, d, x)
  else if ls.length = 0 then (0, d, x)
  else if (seqD (addL x ls) d).1 = 0 then (0, (seqD (addL x ls) d).2, { x with n := x.n + ls.length, broken := false })
  else ((seqD (addL x ls) d).1, (seqD (addL x ls) d).2, { x with broken := true })
def compS (x : Va) (ls : List (List Int)) : List Int := headI (x.gen + 1) ls.length ++ framesI (x.gen + 1) 0 ls
def compL (x : Va) (ls : List (List Int)) : List (Dk → Int × Dk) := [fun d => d.vcut (1 - x.file) 0, fun d => d.write (1 - x.file) (compS x ls), fun d => d.sync (1 - x.file), fun d => d.cut x.file 0]
def Dk.compV (d : Dk) (x : Va) (ls : List (List Int)) : Int × Dk × Va :=
  if vmayv x.broken ls ≠ 0 then (vmayv x.broken ls, d, x)
  else if 4611686018427387904 ≤ x.gen then (6, d, x)
  else if d.off = true then (8, d, { x with broken := true })
  else if roomF d + (d.file (1 - x.file)).stands.length < ((44 + sizeI ls : Nat) : Int) then (7, d, x)
  else if (seqD (compL x ls) d).1 = 0 then (0, (seqD (compL x ls) d).2, ⟨1 - x.file, x.gen + 1, ls.length, false⟩)
  else ((seqD (compL x ls) d).1, (seqD (compL x ls) d).2, { x with broken := true })

theorem look_some {f : Int} {b : List Int} {g : Int} {ls : List (List Int)} (h : lookI f b = some (g, ls)) : 44 ≤ b.length ∧ g = ofBytes (b.take 8) ∧ ls = wholeI g (b.drop 44) ∧ 1 ≤ g ∧ g ≤ 4611686018427387904 ∧ g % 2 = f ∧ ofBytes ((b.drop 8).take 4) ≤ ls.length ∧ chk (b.take 12) = (b.drop 12).take 32 := by
  unfold lookI at h
  split at h
  · cases h
  · split at h
    · cases h
    · split at h
      · cases h
      · split at h
        · cases h
        · rename_i h1 h2 h3 h4
          injection h with h
          injection h with e1 e2
          subst e1; subst e2
          exact ⟨by omega, rfl, rfl, by omega, by omega, by omega, by omega, by simpa using h2⟩
theorem look_size {f : Int} {b : List Int} (hb : Bytes b) {g : Int} {ls : List (List Int)} (h : lookI f b = some (g, ls)) : 44 + sizeI ls ≤ b.length := by
  obtain ⟨h1, -, h2, -⟩ := look_some h
  have := sizeI_whole g (b.drop 44).length 0 (b.drop 44) (hb.drop 44)
  rw [h2]
  unfold wholeI
  rw [List.length_drop] at this ⊢
  omega
/-- what is best is a file's -/
theorem best_mem (d : Dk) : ∀ (k f : Nat) (g : Int) (ls : List (List Int)), bestN d k = some (f, g, ls) → f < k ∧ lookI f (d.file f).stands = some (g, ls)
  | 0, _, _, _, h => by cases h
  | k + 1, f, g, ls, h => by
    rw [bestN] at h
    cases hl : lookI k (d.file k).stands with
    | none =>
      rw [hl] at h
      have := best_mem d k f g ls h
      exact ⟨by omega, this.2⟩
    | some p =>
      obtain ⟨g2, l2⟩ := p
      rw [hl] at h
      simp only [updI] at h
      split at h
      · injection h with h
        injection h with e1 h
        injection h with e2 e3
        subst e1; subst e2; subst e3
        exact ⟨by omega, hl⟩
      · have := best_mem d k f g ls h
        exact ⟨by omega, this.2⟩

/-- rows of bytes that lie in blocks that nobody writes -/
def RdLS (w : World) (ρ : Nat → Nat) (v : Value) (ls : List (List Int)) : Prop :=
  (v = .slice none 0 0 ∧ ls = []) ∨ ∃ a g o cap, v = .slice (some a) ls.length cap ∧ ls.length ≤ cap ∧ (0 < ls.length → a = ⟨g, o, none⟩ ∧ ρ g = 0) ∧ ∀ j, j < ls.length → ∃ u, w.cell? ⟨g, o + j, none⟩ = some u ∧ RdS w ρ u (ls[j]?.getD [])
theorem RdLS.rdl {w : World} {ρ : Nat → Nat} {v : Value} {ls : List (List Int)} (h : RdLS w ρ v ls) : RdL w v ls := by
  rcases h with h | ⟨a, g, o, cap, h1, h2, h3, h4⟩
  · exact .inl h
  · refine .inr ⟨a, g, o, cap, h1, h2, fun hl => (h3 hl).1, fun j hj => ?_⟩
    obtain ⟨u, h5, h6⟩ := h4 j hj
    exact ⟨u, h5, h6.rdb⟩
theorem FrL.rdls {w : World} {B : Nat} {v : Value} {ls : List (List Int)} {ρ : Nat → Nat} (h : FrL w B v ls) (hf : ∀ k, B ≤ k → ρ k = 0) : RdLS w ρ v ls := by
  obtain ⟨vs, h1, h2⟩ := h
  rcases h1.2 with ⟨q1, q2⟩ | ⟨g, cap, cur, q1, q2, q3, q4, -⟩
  · exact .inl ⟨q1, List.length_eq_zero_iff.1 q2⟩
  · refine .inr ⟨⟨g, 0, none⟩, g, 0, cap, q1, q4, fun _ => ⟨rfl, hf g q2⟩, fun j hj => ?_⟩
    obtain ⟨u, h3, h4⟩ := h2 j hj
    refine ⟨u, by rw [Nat.zero_add, own_cell h1 q1 j hj]; exact h3, ?_⟩
    rw [List.getElem?_eq_getElem hj]
    exact h4.rds hf

/-- the disk's own blocks, and a vault's, alone are turned -/
structure MvV (ρ ρ' : Nat → Nat) (V : Nat) (w w' : World) : Prop where
  os : w'.os = w.os
  tape : w'.tape = w.tape
  output : w'.output = w.output
  size : w.heap.size ≤ w'.heap.size
  role : ∀ g, g < w.heap.size → ρ' g = ρ g
  block : ∀ g, g < w.heap.size → ρ g = 0 ∨ 3 < ρ g ∧ g ≠ V → w'.heap[g]? = w.heap[g]?
theorem Mv.v {ρ ρ' : Nat → Nat} {w w' : World} (h : Mv ρ ρ' w w') (V : Nat) : MvV ρ ρ' V w w' :=
  ⟨h.os, h.tape, h.output, h.size, h.role, fun g hg hr => h.block g hg (by rcases hr with hr | hr; exact .inl hr; exact .inr hr.1)⟩
theorem MvV.trans {ρ ρ' ρ'' : Nat → Nat} {V : Nat} {w w' w'' : World} (h : MvV ρ ρ' V w w') (k : MvV ρ' ρ'' V w' w'') : MvV ρ ρ'' V w w'' :=
  ⟨k.os.trans h.os, k.tape.trans h.tape, k.output.trans h.output, Nat.le_trans h.size k.size, fun g hg => (k.role g (Nat.lt_of_lt_of_le hg h.size)).trans (h.role g hg),
    fun g hg hr => (k.block g (Nat.lt_of_lt_of_le hg h.size) (by rw [h.role g hg]; exact hr)).trans (h.block g hg hr)⟩
theorem MvV.refl (ρ : Nat → Nat) (V : Nat) (w : World) : MvV ρ ρ V w w := (Mv.refl ρ w).v V
theorem MvV.ofBelow (ρ : Nat → Nat) (V : Nat) {w w' : World} (h : Below w.heap.size w w') : MvV ρ ρ V w w' := (Mv.ofBelow ρ h).v V
theorem MvV.set {ρ ρ' : Nat → Nat} {V : Nat} {w w' : World} (h : MvV ρ ρ' V w w') (hV : ρ' V = 4) (o : Nat) (v : Value) : MvV ρ ρ' V w (w'.setCell ⟨V, o, none⟩ v) := by
  have b : RowKit.Below 0 w' (w'.setCell ⟨V, o, none⟩ v) := (RowKit.Below.refl 0 w').setCell (Nat.zero_le _) v
  refine ⟨b.os.trans h.os, b.tape.trans h.tape, b.output.trans h.output, Nat.le_trans h.size b.size, h.role, fun g hg hr => ?_⟩
  rw [set_heap]
  · exact h.block g hg hr
  · intro e
    have := h.role g hg
    subst e
    omega
theorem RdS.mvv {w w' : World} {ρ ρ' : Nat → Nat} {V : Nat} {v : Value} {xs : List Int} (h : RdS w ρ v xs) (m : MvV ρ ρ' V w w') : RdS w' ρ' v xs := by
  rcases h with h | ⟨a, g, o, cap, h1, h2, h3, h4⟩
  · exact .inl h
  · refine .inr ⟨a, g, o, cap, h1, h2, fun hl => ⟨(h3 hl).1, ?_⟩, fun j hj => ?_⟩
    · rw [m.role g (block_lt_of_cell (h4 0 hl))]; exact (h3 hl).2
    · have hc := h4 j hj
      rw [World.cell?_of_block (m.block g (block_lt_of_cell hc) (.inl (h3 (by omega)).2))]; exact hc
theorem RdLS.mvv {w w' : World} {ρ ρ' : Nat → Nat} {V : Nat} {v : Value} {ls : List (List Int)} (h : RdLS w ρ v ls) (m : MvV ρ ρ' V w w') : RdLS w' ρ' v ls := by
  rcases h with h | ⟨a, g, o, cap, h1, h2, h3, h4⟩
  · exact .inl h
  · refine .inr ⟨a, g, o, cap, h1, h2, fun hl => ⟨(h3 hl).1, ?_⟩, fun j hj => ?_⟩
    · obtain ⟨u, h5, -⟩ := h4 0 hl
      rw [m.role g (block_lt_of_cell h5)]; exact (h3 hl).2
    · obtain ⟨u, h5, h6⟩ := h4 j hj
      refine ⟨u, ?_, h6.mvv m⟩
      rw [World.cell?_of_block (m.block g (block_lt_of_cell h5) (.inl (h3 (by omega)).2))]; exact h5
theorem VaAt.mv {w w' : World} {ρ ρ' : Nat → Nat} {V D : Nat} {x : Va} (h : VaAt w V D x) (m : Mv ρ ρ' w w') (hV : ρ V = 4) : VaAt w' V D x := h.same (m.block V h.lt (.inr (by omega)))
theorem KTab.mvv {w w' : World} {ρ ρ' : Nat → Nat} {V : Nat} (h : KTab w) (m : MvV ρ ρ' V w w') (hr : ρ 0 = 0) : KTab w' := by
  have hl := h.lt
  obtain ⟨t, fr, h⟩ := h
  exact ⟨t, fr, by rw [m.block _ hl (.inl hr)]; exact h⟩
/-- a disk and a vault upon it -/
structure VD (w : World) (ρ : Nat → Nat) (B D V : Nat) (d : Dk) (x : Va) : Prop where
  disk : DiskAt w ρ B D d
  va : VaAt w V D x
  role : ρ V = 4
def VLeft2 (ρ : Nat → Nat) (B D V : Nat) (w : World) (d : Dk) (x : Va) (w' : World) : Prop := ∃ ρ', VD w' ρ' B D V d x ∧ MvV ρ ρ' V w w'
theorem VD.keep {w w' : World} {ρ : Nat → Nat} {B D V : Nat} {d : Dk} {x : Va} (h : VD w ρ B D V d x) (hb : Below w.heap.size w w') : VD w' ρ B D V d x := ⟨h.disk.keep hb, h.va.keep hb, h.role⟩
theorem VD.left {w w' : World} {ρ : Nat → Nat} {B D V : Nat} {d d' : Dk} {x : Va} (h : VD w ρ B D V d x) (hl : Left ρ B D w d' w') : VLeft2 ρ B D V w d' x w' := by
  obtain ⟨ρ', h1, m⟩ := hl
  exact ⟨ρ', ⟨h1, h.va.mv m h.role, (m.role V h.va.lt).trans h.role⟩, m.v V⟩
theorem VLeft2.after {w w1 w' : World} {ρ : Nat → Nat} {B D V : Nat} {d : Dk} {x : Va} (hb : Below w.heap.size w w1) (h : VLeft2 ρ B D V w1 d x w') : VLeft2 ρ B D V w d x w' := by
  obtain ⟨ρ', h1, h2⟩ := h
  exact ⟨ρ', h1, (MvV.ofBelow ρ V hb).trans h2⟩
theorem VD.below {w w' : World} {ρ : Nat → Nat} {B D V : Nat} {d : Dk} {x : Va} (h : VD w ρ B D V d x) (hb : Below w.heap.size w w') : VLeft2 ρ B D V w d x w' := ⟨ρ, h.keep hb, MvV.ofBelow ρ V hb⟩
/-- the vault's own field is written -/
theorem DiskAt.setV {w : World} {ρ : Nat → Nat} {B D V : Nat} {d : Dk} (h : DiskAt w ρ B D d) (hV : ρ V = 4) (o : Nat) (v : Value) : DiskAt (w.setCell ⟨V, o, none⟩ v) ρ B D d :=
  h.other (by rw [set_size]; exact Nat.le_refl _) (fun g _ hr => ⟨rfl, set_heap fun e => by subst e; omega⟩) (fun k hk => h.fresh k (by rwa [set_size] at hk))
end Go.Proofs.YtfohemgfiidokaaGreatDoor
