/- A law's own disk and vault, its own variables, and rows that it has read. -/
import Derived.Test.YtfohemgfiidokaaGreatDoorYu
namespace Go.Proofs.YtfohemgfiidokaaGreatDoor
open Go.RowKit Go.Sort

/-- how the law's memory stands: the disk D; the vault, if there is one; variables A of its own; rows R that nobody writes -/
def St (w0 : World) (A : List Nat) (D : Nat) (d : Dk) (o : Option (Nat × Va)) (R : List (Value × List (List Int))) (w : World) : Prop :=
  ∃ ρ, DiskAt w ρ w0.heap.size D d ∧ (∀ g, g < w0.heap.size → ρ g = 0) ∧ (∀ a, a ∈ A → a < w.heap.size ∧ w0.heap.size ≤ a ∧ ρ a = 4) ∧ RowKit.Below w0.heap.size w0 w ∧
    (∀ V x, o = some (V, x) → VaAt w V D x ∧ ρ V = 4 ∧ w0.heap.size ≤ V ∧ V ∉ A) ∧ ∀ p, p ∈ R → RdLS w ρ p.1 p.2
def StT (w0 : World) (A : List Nat) (D : Nat) (d : Dk) (o : Option (Nat × Va)) (R : List (Value × List (List Int))) (w w' : World) : Prop := St w0 A D d o R w' ∧ w.heap.size ≤ w'.heap.size ∧ ∀ a, a ∈ A → w'.heap[a]? = w.heap[a]?
/-- all that a law keeps of a disk -/
structure DG (d : Dk) (k m : Nat) : Prop where
  sz : DSz d k m
  by_ : DBy d
theorem St.below {w0 w : World} {A : List Nat} {D : Nat} {d : Dk} {o : Option (Nat × Va)} {R : List (Value × List (List Int))} (h : St w0 A D d o R w) : RowKit.Below w0.heap.size w0 w := by obtain ⟨_, _, _, _, h, _⟩ := h; exact h
theorem RdLS.keep {w w' : World} {ρ : Nat → Nat} {v : Value} {ls : List (List Int)} (h : RdLS w ρ v ls) (hb : RowKit.Below w.heap.size w w') : RdLS w' ρ v ls := RdLS.mvv (V := 0) h (MvV.ofBelow ρ 0 hb)
theorem St.keep {w0 w W : World} {A : List Nat} {D : Nat} {d : Dk} {o : Option (Nat × Va)} {R : List (Value × List (List Int))} (h : St w0 A D d o R w) (hb : RowKit.Below w.heap.size w W) : St w0 A D d o R W := by
  obtain ⟨ρ, h1, h2, h3, h4, h5, h6⟩ := h
  have := hb.size
  exact ⟨ρ, h1.keep hb, h2, fun a ha => ⟨by have := (h3 a ha).1; omega, (h3 a ha).2⟩, bel_call h4 hb, fun V x e => ⟨(h5 V x e).1.keep hb, (h5 V x e).2⟩, fun p hp => (h6 p hp).keep hb⟩
theorem St.t {w0 w w' : World} {A : List Nat} {D : Nat} {d : Dk} {o : Option (Nat × Va)} {R : List (Value × List (List Int))} (h : St w0 A D d o R w) (hb : RowKit.Below w.heap.size w w') : StT w0 A D d o R w w' := by
  have hk := h.keep hb
  obtain ⟨ρ, h1, h2, h3, h4, h5, h6⟩ := h
  exact ⟨hk, hb.size, fun a ha => hb.block a (h3 a ha).1⟩
theorem StT.after {w0 w w1 w' : World} {A : List Nat} {D : Nat} {d d' : Dk} {o o' : Option (Nat × Va)} {R R' : List (Value × List (List Int))} (h : St w0 A D d o R w) (hb : RowKit.Below w.heap.size w w1) (k : StT w0 A D d' o' R' w1 w') : StT w0 A D d' o' R' w w' := by
  obtain ⟨ρ, h1, h2, h3, h4, h5, h6⟩ := h
  exact ⟨k.1, Nat.le_trans hb.size k.2.1, fun a ha => (k.2.2 a ha).trans (hb.block a (h3 a ha).1)⟩
/-- a row that has been read; one that is not of use any more; a vault that is given up -/
theorem St.sub {w0 w : World} {A : List Nat} {D : Nat} {d : Dk} {o : Option (Nat × Va)} {R R' : List (Value × List (List Int))} (h : St w0 A D d o R w) (hs : ∀ p, p ∈ R' → p ∈ R) : St w0 A D d o R' w := by
  obtain ⟨ρ, h1, h2, h3, h4, h5, h6⟩ := h
  exact ⟨ρ, h1, h2, h3, h4, h5, fun p hp => h6 p (hs p hp)⟩
theorem St.novault {w0 w : World} {A : List Nat} {D : Nat} {d : Dk} {o : Option (Nat × Va)} {R : List (Value × List (List Int))} (h : St w0 A D d o R w) : St w0 A D d none R w := by
  obtain ⟨ρ, h1, h2, h3, h4, h5, h6⟩ := h
  exact ⟨ρ, h1, h2, h3, h4, fun V x e => by simp at e, h6⟩
/-- an old block's rows, or a new one's, are rows that nobody writes -/
theorem St.add {w0 w : World} {A : List Nat} {D : Nat} {d : Dk} {o : Option (Nat × Va)} {R : List (Value × List (List Int))} (h : St w0 A D d o R w) (v : Value) (ls : List (List Int)) (hr : ∀ ρ : Nat → Nat, (∀ g, g < w0.heap.size → ρ g = 0) → RdLS w ρ v ls) : St w0 A D d o ((v, ls) :: R) w := by
  obtain ⟨ρ, h1, h2, h3, h4, h5, h6⟩ := h
  exact ⟨ρ, h1, h2, h3, h4, h5, fun p hp => by
    rcases List.mem_cons.1 hp with rfl | hp
    · exact hr ρ h2
    · exact h6 p hp⟩
theorem St.addNew {w0 w W : World} {A : List Nat} {D : Nat} {d : Dk} {o : Option (Nat × Va)} {R : List (Value × List (List Int))} (h : St w0 A D d o R w) (hb : RowKit.Below w.heap.size w W) (v : Value) (ls : List (List Int)) (hr : ∀ ρ : Nat → Nat, (∀ g, g < w0.heap.size → ρ g = 0) → (∀ g, w.heap.size ≤ g → ρ g = 0) → (∀ p, p ∈ R → RdLS W ρ p.1 p.2) → RdLS W ρ v ls) : St w0 A D d o ((v, ls) :: R) W := by
  have hk := h.keep hb
  obtain ⟨ρ, h1, h2, h3, h4, h5, h6⟩ := h
  have := hb.size
  refine ⟨ρ, h1.keep hb, h2, fun a ha => ⟨by have := (h3 a ha).1; omega, (h3 a ha).2⟩, bel_call h4 hb, fun V x e => ⟨(h5 V x e).1.keep hb, (h5 V x e).2⟩, fun p hp => ?_⟩
  rcases List.mem_cons.1 hp with rfl | hp
  · exact hr ρ h2 h1.fresh fun p hp => (h6 p hp).keep hb
  · exact (h6 p hp).keep hb
theorem St.rdl {w0 w : World} {A : List Nat} {D : Nat} {d : Dk} {o : Option (Nat × Va)} {R : List (Value × List (List Int))} (h : St w0 A D d o R w) {v : Value} {ls : List (List Int)} (hm : (v, ls) ∈ R) : RdL w v ls := by
  obtain ⟨ρ, h1, h2, h3, h4, h5, h6⟩ := h
  exact (h6 _ hm).rdl
theorem st_left {w0 w w' : World} {A : List Nat} {D : Nat} {d' : Dk} {o : Option (Nat × Va)} {R : List (Value × List (List Int))} {ρ : Nat → Nat} (h2 : ∀ g, g < w0.heap.size → ρ g = 0) (h3 : ∀ a, a ∈ A → a < w.heap.size ∧ w0.heap.size ≤ a ∧ ρ a = 4) (h4 : RowKit.Below w0.heap.size w0 w) (h5 : ∀ V x, o = some (V, x) → VaAt w V D x ∧ ρ V = 4 ∧ w0.heap.size ≤ V ∧ V ∉ A) (h6 : ∀ p, p ∈ R → RdLS w ρ p.1 p.2) (hl : Left ρ w0.heap.size D w d' w') : StT w0 A D d' o R w w' := by
  obtain ⟨ρ', k1, k2⟩ := hl
  have hs := h4.size
  have hs2 := k2.size
  exact ⟨⟨ρ', k1, fun g hg => (k2.role g (by omega)).trans (h2 g hg), fun a ha => ⟨by have := (h3 a ha).1; omega, (h3 a ha).2.1, (k2.role a (h3 a ha).1).trans (h3 a ha).2.2⟩, h4.trans (k2.below fun g hg => ⟨by omega, .inl (h2 g hg)⟩),
    fun V x e => ⟨(h5 V x e).1.mv k2 (h5 V x e).2.1, (k2.role V (h5 V x e).1.lt).trans (h5 V x e).2.1, (h5 V x e).2.2⟩, fun p hp => RdLS.mvv (V := 0) (h6 p hp) (k2.v 0)⟩, hs2, fun a ha => k2.block a (h3 a ha).1 (.inr (by rw [(h3 a ha).2.2]; omega))⟩
theorem st_leftv {w0 w w' : World} {A : List Nat} {D V : Nat} {d' : Dk} {x' : Va} {R : List (Value × List (List Int))} {ρ : Nat → Nat} (h2 : ∀ g, g < w0.heap.size → ρ g = 0) (h3 : ∀ a, a ∈ A → a < w.heap.size ∧ w0.heap.size ≤ a ∧ ρ a = 4) (h4 : RowKit.Below w0.heap.size w0 w) (hV0 : w0.heap.size ≤ V) (hVA : V ∉ A) (h6 : ∀ p, p ∈ R → RdLS w ρ p.1 p.2) (hl : VLeft2 ρ w0.heap.size D V w d' x' w') : StT w0 A D d' (some (V, x')) R w w' := by
  obtain ⟨ρ', k1, k2⟩ := hl
  have hs := h4.size
  have hs2 := k2.size
  have hne : ∀ a, a ∈ A → a ≠ V := fun a ha e => hVA (e ▸ ha)
  refine ⟨⟨ρ', k1.disk, fun g hg => (k2.role g (by omega)).trans (h2 g hg), fun a ha => ⟨by have := (h3 a ha).1; omega, (h3 a ha).2.1, (k2.role a (h3 a ha).1).trans (h3 a ha).2.2⟩,
    h4.trans ⟨k2.os, k2.tape, k2.output, k2.size, fun g hg => k2.block g (by omega) (.inl (h2 g hg))⟩,
    fun V2 x e => by cases e; exact ⟨k1.va, k1.role, hV0, hVA⟩, fun p hp => RdLS.mvv (h6 p hp) k2⟩, hs2, fun a ha => k2.block a (h3 a ha).1 (.inr ⟨by rw [(h3 a ha).2.2]; omega, hne a ha⟩)⟩

theorem st_new (most : Int) (w : World) (h0 : 1 ≤ most) (h1 : most ≤ 4194304) :
    Calls Tryz.prog 6 #[.int .i64 most] w fun e w' => e = .returned (.tuple #[.pointer (some ⟨w.heap.size, 0, none⟩), .int .i64 0]) ∧ St w [] w.heap.size ⟨⟨[], []⟩, ⟨[], []⟩, most, false, false, 0⟩ none [] w' :=
  (now_new most w h0 h1).mono fun e w' ⟨he, ρ, k1, k2, k3⟩ => ⟨he, ρ, k1, k2, fun a ha => by simp at ha, k3, fun V x e => by simp at e, fun p hp => by simp at hp⟩
section
variable {w0 w : World} {A : List Nat} {D : Nat} {d : Dk} {o : Option (Nat × Va)} {R : List (Value × List (List Int))}
theorem st_off (h : St w0 A D d o R w) : Calls Tryz.prog 17 #[.pointer (some ⟨D, 0, none⟩)] w fun e w' => e = .returned (.int .i64 d.offc.1) ∧ StT w0 A D d.offc.2 o R w w' := by
  obtain ⟨ρ, h1, h2, h3, h4, h5, h6⟩ := h
  exact (off_any h1).mono fun e w' ⟨he, hl⟩ => ⟨he, st_left h2 h3 h4 h5 h6 hl⟩
theorem st_fuse (h : St w0 A D d o R w) (n : Int) : Calls Tryz.prog 21 #[.pointer (some ⟨D, 0, none⟩), .int .i64 n] w fun e w' => e = .returned (.int .i64 (d.fuse n).1) ∧ StT w0 A D (d.fuse n).2 o R w w' := by
  obtain ⟨ρ, h1, h2, h3, h4, h5, h6⟩ := h
  exact (fuse_any h1 n).mono fun e w' ⟨he, hl⟩ => ⟨he, st_left h2 h3 h4 h5 h6 hl⟩
theorem st_cut (h : St w0 A D d o R w) (ok : DOk d) (f n : Int) : Calls Tryz.prog 52 #[.pointer (some ⟨D, 0, none⟩), .int .i64 f, .int .i64 n] w fun e w' => e = .returned (.int .i64 (d.cut f n).1) ∧ StT w0 A D (d.cut f n).2 o R w w' := by
  obtain ⟨ρ, h1, h2, h3, h4, h5, h6⟩ := h
  exact (cut_any h1 ok f n).mono fun e w' ⟨he, hl⟩ => ⟨he, st_left h2 h3 h4 h5 h6 hl⟩
theorem st_write (h : St w0 A D d o R w) (ok : DOk d) (f : Int) (v : Value) (b : List Int) (W : World) (hb : RowKit.Below w.heap.size w W) (hv : RdM w0.heap.size w.heap.size W v b) (hbl : b.length ≤ 1000000000) : Calls Tryz.prog 41 #[.pointer (some ⟨D, 0, none⟩), .int .i64 f, v] W fun e w' => e = .returned (.int .i64 (d.write f b).1) ∧ StT w0 A D (d.write f b).2 o R w w' := by
  have hh := h
  obtain ⟨ρ, h1, h2, h3, h4, h5, h6⟩ := h
  have hs := hb.size
  exact (write_any (h1.keep hb) ok f v b (hv.rds h2 h1.fresh) hbl).mono fun e w' ⟨he, hl⟩ => ⟨he, StT.after hh hb (st_left h2 (fun a ha => ⟨by have := (h3 a ha).1; omega, (h3 a ha).2⟩) (bel_call h4 hb) (fun V x e => ⟨(h5 V x e).1.keep hb, (h5 V x e).2⟩) (fun p hp => (h6 p hp).keep hb) hl)⟩
theorem st_on (h : St w0 A D d o R w) (ok : DOk d) (p : Option Addr) (len cap : Nat) (pk : Nat → Int) (W : World) (hb : RowKit.Below w.heap.size w W) (hp : PkM w0.heap.size w.heap.size W p len pk) : Calls Tryz.prog 18 #[.pointer (some ⟨D, 0, none⟩), .slice p len cap] W fun e w' => e = .returned (.int .i64 (d.onc pk).1) ∧ StT w0 A D (d.onc pk).2 o R w w' := by
  have hh := h
  obtain ⟨ρ, h1, h2, h3, h4, h5, h6⟩ := h
  have hs := hb.size
  have hc := on_any (h1.keep hb) ok p len cap pk ⟨fun i hi hl => by
    obtain ⟨g, o, e1, e2, e3⟩ := hp.1 i hi hl
    exact ⟨g, o, e1, e2, by rcases e3 with e | e; exact h2 g e; exact h1.fresh g e⟩, hp.2⟩
  exact hc.mono fun e w' ⟨he, hl⟩ => ⟨he, StT.after hh hb (st_left h2 (fun a ha => ⟨by have := (h3 a ha).1; omega, (h3 a ha).2⟩) (bel_call h4 hb) (fun V x e => ⟨(h5 V x e).1.keep hb, (h5 V x e).2⟩) (fun p hp => (h6 p hp).keep hb) hl)⟩
/-- On without picks -/
theorem st_on0 (h : St w0 A D d o R w) (ok : DOk d) : Calls Tryz.prog 18 #[.pointer (some ⟨D, 0, none⟩), .slice none 0 0] w fun e w' => e = .returned (.int .i64 (d.onc fun _ => 0).1) ∧ StT w0 A D (d.onc fun _ => 0).2 o R w w' :=
  st_on h ok none 0 0 (fun _ => 0) w (RowKit.Below.refl _ _) ⟨fun i _ hl => by omega, fun _ _ _ => rfl, fun _ _ => by show (-9223372036854775808 : Int) ≤ 0; omega, fun _ _ => by show (0 : Int) ≤ 9223372036854775807; omega⟩
theorem st_table (h : St w0 A D d o R w) (ht : KTab w0) : KTab w := ht.below h.below ht.lt
/-- what Open leaves to a law -/
def OpT (w0 : World) (A : List Nat) (D : Nat) (R : List (Value × List (List Int))) (w : World) (q : Int × Dk × Option (Va × List (List Int))) (e : Ending) (w' : World) : Prop :=
  match q with
  | (r, d', none) => e = .returned (.tuple #[.pointer none, .slice none 0 0, .int .i64 r]) ∧ StT w0 A D d' none R w w'
  | (r, d', some (x, ls)) => ∃ V rv, e = .returned (.tuple #[.pointer (some ⟨V, 0, none⟩), rv, .int .i64 r]) ∧ StT w0 A D d' (some (V, x)) ((rv, ls) :: R) w w'
theorem st_open {k m : Nat} (h : St w0 A D d o R w) (g : DG d k m) (hk : k ≤ 900000) (hm : m ≤ 9000000) (ht : KTab w0) :
    Calls Tryz.prog 11 #[.pointer (some ⟨D, 0, none⟩)] w fun e w' => OpT w0 A D R w d.openV e w' := by
  have ht2 := st_table h ht
  obtain ⟨ρ, h1, h2, h3, h4, h5, h6⟩ := h
  refine (open_all h1 g.sz g.by_ hk hm ht2 (h2 _ ht.lt)).mono fun e w' hp => ?_
  generalize d.openV = q at *
  obtain ⟨r, d', q⟩ := q
  cases q with
  | none => exact ⟨hp.1, st_left (o := none) h2 h3 h4 (fun V x e => by simp at e) h6 hp.2⟩
  | some q =>
    obtain ⟨x, ls⟩ := q
    obtain ⟨V, rv, he, hV, ρ', k1, k2, k3⟩ := hp
    refine ⟨V, rv, he, ?_⟩
    have hs := h4.size
    obtain ⟨⟨ρ2, i1, i2, i3, i4, i5, i6⟩, j1, j2⟩ := st_left (o := none) (A := A) (R := R) h2 h3 h4 (fun V x e => by simp at e) h6 ⟨ρ', k1.disk, k2⟩
    refine ⟨⟨ρ', k1.disk, fun g hg => (k2.role g (by omega)).trans (h2 g hg), fun a ha => ⟨by have := (h3 a ha).1; have := k2.size; omega, (h3 a ha).2.1, (k2.role a (h3 a ha).1).trans (h3 a ha).2.2⟩, i4, fun V2 x2 e => ?_, fun p hp => ?_⟩, j1, j2⟩
    · cases e
      exact ⟨k1.va, k1.role, by omega, fun ha => by have := (h3 V ha).1; omega⟩
    · rcases List.mem_cons.1 hp with rfl | hp
      · exact k3
      · exact RdLS.mvv (V := 0) (h6 p hp) (k2.v 0)
/-- a new variable of the law's; it is written -/
theorem St.alloc (h : St w0 A D d o R w) (ob : Obj) : St w0 (w.heap.size :: A) D d o R (w.alloc ob) := by
  obtain ⟨ρ, h1, h2, h3, h4, h5, h6⟩ := h
  obtain ⟨b1, b2⟩ := h1.box ob
  have hs := h4.size
  refine ⟨_, b1, fun g hg => ?_, fun a ha => ?_, bel_alloc h4 ob, fun V x e => ?_, fun p hp => RdLS.mvv (V := 0) (h6 p hp) (b2.v 0)⟩
  · rw [if_neg (by omega)]; exact h2 g hg
  · rcases List.mem_cons.1 ha with rfl | ha
    · exact ⟨by simp, hs, if_pos rfl⟩
    · have := h3 a ha
      exact ⟨by simp; omega, this.2.1, by rw [if_neg (by omega)]; exact this.2.2⟩
  · obtain ⟨q1, q2, q3, q4⟩ := h5 V x e
    have hlt := q1.lt
    refine ⟨q1.mv b2 q2, by rw [if_neg (by omega)]; exact q2, q3, fun hm => ?_⟩
    rcases List.mem_cons.1 hm with hm | hm
    · omega
    · exact q4 hm
theorem St.set {a : Nat} (h : St w0 A D d o R w) (ha : a ∈ A) (of : Nat) (v : Value) : St w0 A D d o R (w.setCell ⟨a, of, none⟩ v) := by
  obtain ⟨ρ, h1, h2, h3, h4, h5, h6⟩ := h
  have h3a := h3 a ha
  have mv : MvV ρ ρ a w (w.setCell ⟨a, of, none⟩ v) := (MvV.refl ρ a w).set h3a.2.2 of v
  refine ⟨ρ, h1.setV h3a.2.2 of v, h2, fun b hb => by rw [set_size]; exact h3 b hb, below_set h4 h3a.2.1 v, fun V x e => ?_, fun p hp => (h6 p hp).mvv mv⟩
  obtain ⟨q1, q2, q3, q4⟩ := h5 V x e
  exact ⟨q1.same (set_heap fun e => q4 (e ▸ ha)), q2, q3, q4⟩
theorem st_room (h : St w0 A D d o R w) (ok : DOk d) : Calls Tryz.prog 16 #[.pointer (some ⟨D, 0, none⟩)] w fun e w' => e = .returned (.int .i64 (roomF d)) ∧ RowKit.Below w.heap.size w w' := by
  obtain ⟨ρ, h1, h2, h3, h4, h5, h6⟩ := h
  exact vroom_c h1 ok
theorem st_read (h : St w0 A D d o R w) (ok : DOk d) (hoff : d.off = false) (f : Nat) (hf : f < 2) : Calls Tryz.prog 24 #[.pointer (some ⟨D, 0, none⟩), .int .i64 f] w fun e w' => ∃ v, e = .returned (.tuple #[v, .int .i64 0]) ∧ RowO w' w.heap.size v (d.file f).stands ∧ RowKit.Below w.heap.size w w' := by
  obtain ⟨ρ, h1, h2, h3, h4, h5, h6⟩ := h
  exact read_at h1 f (d.file f) (h1.file f hf) hf (ok.file f) hoff
theorem st_gen {V : Nat} {x : Va} (h : St w0 A D d (some (V, x)) R w) : Calls Tryz.prog 12 #[.pointer (some ⟨V, 0, none⟩)] w fun e w' => e = .returned (.int .u64 x.gen) ∧ w' = w := by
  obtain ⟨ρ, h1, h2, h3, h4, h5, h6⟩ := h
  exact gen_c (h5 V x rfl).1
theorem st_len {V : Nat} {x : Va} (h : St w0 A D d (some (V, x)) R w) : Calls Tryz.prog 13 #[.pointer (some ⟨V, 0, none⟩)] w fun e w' => e = .returned (.int .i64 x.n) ∧ w' = w := by
  obtain ⟨ρ, h1, h2, h3, h4, h5, h6⟩ := h
  exact len_c (h5 V x rfl).1
theorem st_add {V : Nat} {x : Va} {k m : Nat} (h : St w0 A D d (some (V, x)) R w) (g : DG d k m) (hk : k ≤ 900000) (hm : m ≤ 9000000) (ht : KTab w0) (v : Value) (ls : List (List Int)) (hv : RdL w v ls) (hlb : ∀ r ∈ ls, Bytes r) (hsz : sizeI ls ≤ 10000000) (hln : ls.length ≤ 250000) (hn : 0 ≤ x.n ∧ x.n ≤ 1000000) :
    Calls Tryz.prog 14 #[.pointer (some ⟨V, 0, none⟩), v] w fun e w' => e = .returned (.int .i64 (d.addV x ls).1) ∧ StT w0 A D (d.addV x ls).2.1 (some (V, (d.addV x ls).2.2)) R w w' := by
  have ht2 := st_table h ht
  obtain ⟨ρ, h1, h2, h3, h4, h5, h6⟩ := h
  obtain ⟨q1, q2, q3, q4⟩ := h5 V x rfl
  exact (add_all_c ⟨h1, q1, q2⟩ g.sz hk hm ht2 v ls hv hlb hsz hln hn).mono fun e w' ⟨he, hl⟩ => ⟨he, st_leftv h2 h3 h4 q3 q4 h6 hl⟩
theorem st_comp {V : Nat} {x : Va} {k m : Nat} (h : St w0 A D d (some (V, x)) R w) (g : DG d k m) (hk : k ≤ 900000) (hm : m ≤ 9000000) (ht : KTab w0) (hf : x.file < 2) (v : Value) (ls : List (List Int)) (hv : RdL w v ls) (hlb : ∀ r ∈ ls, Bytes r) (hsz : sizeI ls ≤ 10000000) (hln : ls.length ≤ 250000) (hg0 : 0 ≤ x.gen) :
    Calls Tryz.prog 20 #[.pointer (some ⟨V, 0, none⟩), v] w fun e w' => e = .returned (.int .i64 (d.compV x ls).1) ∧ StT w0 A D (d.compV x ls).2.1 (some (V, (d.compV x ls).2.2)) R w w' := by
  have ht2 := st_table h ht
  obtain ⟨ρ, h1, h2, h3, h4, h5, h6⟩ := h
  obtain ⟨q1, q2, q3, q4⟩ := h5 V x rfl
  exact (comp_all_c ⟨h1, q1, q2⟩ g.sz hk hm ht2 hf v ls hv hlb hsz hln hg0).mono fun e w' ⟨he, hl⟩ => ⟨he, st_leftv h2 h3 h4 q3 q4 h6 hl⟩
end
end Go.Proofs.YtfohemgfiidokaaGreatDoor
