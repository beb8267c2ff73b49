/- A disk beside variables of the law's own: the disk's calls leave those as they were. -/
import Derived.Test.YtfohemgfiidokaaDt
namespace Go.Proofs.Ytfohemgfiidokaa
open Go.RowKit Go.Sort

/-- blocks of a role up to 3 as they were, roles as they were -/
theorem DiskAt.other {w w' : World} {ρ ρ' : Nat → Nat} {B D : Nat} {d : Dk} (h : DiskAt w ρ B D d) (hs : w.heap.size ≤ w'.heap.size) (hk : ∀ g, g < w.heap.size → ρ g ≤ 3 → ρ' g = ρ g ∧ w'.heap[g]? = w.heap[g]?) (hf : ∀ k, w'.heap.size ≤ k → ρ' k = 0) : DiskAt w' ρ' B D d := by
  have hD := h.lt
  have hr := h.role
  have hc : ∀ o, w'.cell? ⟨D, o, none⟩ = w.cell? ⟨D, o, none⟩ := fun o => World.cell?_of_block (hk D hD (by omega)).2
  exact ⟨h.base, (hk D hD (by omega)).1.trans hr, hf, h.f0.move hs (fun g hl hg => hk g hl (by omega)) (hc _) (hc _), h.f1.move hs (fun g hl hg => hk g hl (by omega)) (hc _) (hc _),
    (hc _).trans h.most, (hc _).trans h.off, (hc _).trans h.fused, (hc _).trans h.left, fun o => (World.frozen?_of_block (hk D hD (by omega)).2).trans (h.fz o)⟩

/-- A disk D, and the law's own blocks A -/
def NowV (w0 : World) (A : List Nat) (D : Nat) (d : Dk) (w : World) : Prop := ∃ ρ, DiskAt w ρ w0.heap.size D d ∧ (∀ g, g < w0.heap.size → ρ g = 0) ∧ (∀ a, a ∈ A → a < w.heap.size ∧ w0.heap.size ≤ a ∧ ρ a = 4) ∧ Below w0.heap.size w0 w
def NowT (w0 : World) (A : List Nat) (D : Nat) (d : Dk) (w w' : World) : Prop := NowV w0 A D d w' ∧ w.heap.size ≤ w'.heap.size ∧ ∀ a, a ∈ A → w'.heap[a]? = w.heap[a]?
theorem Now.v {w0 w : World} {D : Nat} {d : Dk} (h : Now w0 D d w) : NowV w0 [] D d w := by
  obtain ⟨ρ, h1, h2, h3⟩ := h
  exact ⟨ρ, h1, h2, fun a ha => by simp at ha, h3⟩
theorem NowV.keep {w0 w W : World} {A : List Nat} {D : Nat} {d : Dk} (h : NowV w0 A D d w) (hb : Below w.heap.size w W) : NowV w0 A D d W := by
  obtain ⟨ρ, h1, h2, h4, h3⟩ := h
  have := hb.size
  exact ⟨ρ, h1.keep hb, h2, fun a ha => ⟨by have := (h4 a ha).1; omega, (h4 a ha).2⟩, bel_call h3 hb⟩
theorem NowV.below {w0 w : World} {A : List Nat} {D : Nat} {d : Dk} (h : NowV w0 A D d w) : Below w0.heap.size w0 w := by obtain ⟨_, _, _, _, h⟩ := h; exact h
/-- a new variable of the law's -/
theorem NowV.alloc {w0 w : World} {A : List Nat} {D : Nat} {d : Dk} (h : NowV w0 A D d w) (o : Obj) : NowV w0 (w.heap.size :: A) D d (w.alloc o) := by
  obtain ⟨ρ, h1, h2, h4, h3⟩ := h
  have hs : (w.alloc o).heap.size = w.heap.size + 1 := by simp
  have h30 := h3.size
  refine ⟨fun k => if k = w.heap.size then 4 else ρ k, h1.other (by omega) (fun g hg _ => ⟨by rw [if_neg (by omega)], Below.heap_alloc _ _ _ hg⟩) (fun k hk => by rw [if_neg (by omega)]; exact h1.fresh k (by omega)), fun g hg => (if_neg (by omega)).trans (h2 g hg), fun a ha => ?_, bel_alloc h3 o⟩
  rcases List.mem_cons.1 ha with rfl | ha
  · exact ⟨by omega, h30, if_pos rfl⟩
  · have := h4 a ha
    exact ⟨by omega, this.2.1, (if_neg (by omega)).trans this.2.2⟩
/-- a variable of the law's is written -/
theorem NowV.set {w0 w : World} {A : List Nat} {D a : Nat} {d : Dk} (h : NowV w0 A D d w) (ha : a ∈ A) (o : Nat) (v : Value) : NowV w0 A D d (w.setCell ⟨a, o, none⟩ v) := by
  obtain ⟨ρ, h1, h2, h4, h3⟩ := h
  have ha4 := h4 a ha
  refine ⟨ρ, h1.other (by rw [set_size]; exact Nat.le_refl _) (fun g hg hr => ⟨rfl, set_heap fun e => by subst e; omega⟩) (fun k hk => h1.fresh k (by rwa [set_size] at hk)), h2, fun b hb => ?_, below_set h3 ha4.2.1 v⟩
  rw [set_size]; exact h4 b hb
theorem NowV.drop {w0 w : World} {a : Nat} {A : List Nat} {D : Nat} {d : Dk} (h : NowV w0 (a :: A) D d w) : NowV w0 A D d w := by
  obtain ⟨ρ, h1, h2, h4, h3⟩ := h
  exact ⟨ρ, h1, h2, fun b hb => h4 b (List.mem_cons_of_mem _ hb), h3⟩
theorem nowv_left {w0 w w' : World} {A : List Nat} {D : Nat} {d' : Dk} {ρ : Nat → Nat} (h2 : ∀ g, g < w0.heap.size → ρ g = 0) (h4 : ∀ a, a ∈ A → a < w.heap.size ∧ w0.heap.size ≤ a ∧ ρ a = 4) (h3 : Below w0.heap.size w0 w) (hl : Left ρ w0.heap.size D w d' w') : NowT w0 A D d' w w' := by
  obtain ⟨ρ', k1, k2⟩ := hl
  have hs := h3.size
  have hs2 := k2.size
  exact ⟨⟨ρ', k1, fun g hg => (k2.role g (by omega)).trans (h2 g hg), fun a ha => ⟨by have := (h4 a ha).1; omega, (h4 a ha).2.1, (k2.role a (h4 a ha).1).trans (h4 a ha).2.2⟩, h3.trans (k2.below fun g hg => ⟨by omega, .inl (h2 g hg)⟩)⟩, hs2, fun a ha => k2.block a (h4 a ha).1 (.inr (by rw [(h4 a ha).2.2]; omega))⟩
theorem nowv_below {w0 w w' : World} {A : List Nat} {D : Nat} {d : Dk} (h : NowV w0 A D d w) (hb : Below w.heap.size w w') : NowT w0 A D d w w' := by
  have hk := h.keep hb
  obtain ⟨ρ, h1, h2, h4, h3⟩ := h
  exact ⟨hk, hb.size, fun a ha => hb.block a (h4 a ha).1⟩
theorem nowv_write {w0 w W : World} {A : List Nat} {D : Nat} {d d' : Dk} {r : Int} (h : NowV w0 A D d w) (hb : Below w.heap.size w W) (ok : DOk d) (f : Int) (v : Value) (b : List Int) (hv : RdM w0.heap.size w.heap.size W v b) (hbl : b.length ≤ 1000000000) (hr : d.write f b = (r, d')) :
    Calls Try.prog 16 #[.pointer (some ⟨D, 0, none⟩), .int .i64 f, v] W fun e w' => e = .returned (.int .i64 r) ∧ NowT w0 A D d' W w' := by
  obtain ⟨ρ, h1, h2, h4, h3⟩ := h
  have := write_any (h1.keep hb) ok f v b (hv.rds h2 h1.fresh) hbl
  rw [hr] at this
  exact this.mono fun e w' ⟨he, hl⟩ => ⟨he, nowv_left h2 (fun a ha => ⟨by have := (h4 a ha).1; have := hb.size; omega, (h4 a ha).2⟩) (bel_call h3 hb) hl⟩
theorem nowv_cut {w0 w : World} {A : List Nat} {D : Nat} {d d' : Dk} {r : Int} (h : NowV w0 A D d w) (ok : DOk d) (f n : Int) (hr : d.cut f n = (r, d')) :
    Calls Try.prog 23 #[.pointer (some ⟨D, 0, none⟩), .int .i64 f, .int .i64 n] w fun e w' => e = .returned (.int .i64 r) ∧ NowT w0 A D d' w w' := by
  obtain ⟨ρ, h1, h2, h4, h3⟩ := h
  have := cut_any h1 ok f n
  rw [hr] at this
  exact this.mono fun e w' ⟨he, hl⟩ => ⟨he, nowv_left h2 h4 h3 hl⟩
theorem nowv_sync {w0 w : World} {A : List Nat} {D : Nat} {d d' : Dk} {r : Int} (h : NowV w0 A D d w) (ok : DOk d) (f : Int) (hr : d.sync f = (r, d')) :
    Calls Try.prog 15 #[.pointer (some ⟨D, 0, none⟩), .int .i64 f] w fun e w' => e = .returned (.int .i64 r) ∧ NowT w0 A D d' w w' := by
  obtain ⟨ρ, h1, h2, h4, h3⟩ := h
  have := sync_any h1 ok f
  rw [hr] at this
  exact this.mono fun e w' ⟨he, hl⟩ => ⟨he, nowv_left h2 h4 h3 hl⟩
theorem nowv_fuse {w0 w : World} {A : List Nat} {D : Nat} {d d' : Dk} {r : Int} (h : NowV w0 A D d w) (n : Int) (hr : d.fuse n = (r, d')) :
    Calls Try.prog 22 #[.pointer (some ⟨D, 0, none⟩), .int .i64 n] w fun e w' => e = .returned (.int .i64 r) ∧ NowT w0 A D d' w w' := by
  obtain ⟨ρ, h1, h2, h4, h3⟩ := h
  have := fuse_any h1 n
  rw [hr] at this
  exact this.mono fun e w' ⟨he, hl⟩ => ⟨he, nowv_left h2 h4 h3 hl⟩
theorem nowv_off {w0 w : World} {A : List Nat} {D : Nat} {d d' : Dk} {r : Int} (h : NowV w0 A D d w) (hr : d.offc = (r, d')) :
    Calls Try.prog 17 #[.pointer (some ⟨D, 0, none⟩)] w fun e w' => e = .returned (.int .i64 r) ∧ NowT w0 A D d' w w' := by
  obtain ⟨ρ, h1, h2, h4, h3⟩ := h
  have := off_any h1
  rw [hr] at this
  exact this.mono fun e w' ⟨he, hl⟩ => ⟨he, nowv_left h2 h4 h3 hl⟩
theorem nowv_on {w0 w W : World} {A : List Nat} {D : Nat} {d d' : Dk} {r : Int} (h : NowV w0 A D d w) (hb : Below w.heap.size w W) (ok : DOk d) (p : Option Addr) (len cap : Nat) (pk : Nat → Int) (hp : PkM w0.heap.size w.heap.size W p len pk) (hr : d.onc pk = (r, d')) :
    Calls Try.prog 18 #[.pointer (some ⟨D, 0, none⟩), .slice p len cap] W fun e w' => e = .returned (.int .i64 r) ∧ NowT w0 A D d' W w' := by
  obtain ⟨ρ, h1, h2, h4, h3⟩ := h
  have := on_any (h1.keep hb) ok p len cap pk ⟨fun i hi hl => by
    obtain ⟨g, o, e1, e2, e3⟩ := hp.1 i hi hl
    exact ⟨g, o, e1, e2, by rcases e3 with e | e; exact h2 g e; exact h1.fresh g e⟩, hp.2⟩
  rw [hr] at this
  exact this.mono fun e w' ⟨he, hl⟩ => ⟨he, nowv_left h2 (fun a ha => ⟨by have := (h4 a ha).1; have := hb.size; omega, (h4 a ha).2⟩) (bel_call h3 hb) hl⟩
theorem nowv_room {w0 w : World} {A : List Nat} {D : Nat} {d : Dk} {r : Int} (h : NowV w0 A D d w) (ok : DOk d) (hr : roomF d = r) :
    Calls Try.prog 13 #[.pointer (some ⟨D, 0, none⟩)] w fun e w' => e = .returned (.int .i64 r) ∧ NowT w0 A D d w w' := by
  obtain ⟨ρ, h1, h2, h4, h3⟩ := h
  subst hr
  exact (room_at h1 ok.1 ok.2.1 ok.2.2.1 ok.2.2.2).mono fun e w' ⟨he, hb⟩ => ⟨he, nowv_below ⟨ρ, h1, h2, h4, h3⟩ hb⟩
theorem nowv_stands {w0 w : World} {A : List Nat} {D : Nat} {d : Dk} {r : Bool} (h : NowV w0 A D d w) (ok : DOk d) (hoff : d.off = false) (f : Nat) (hf : f < 2) (want : ByteArray) (hr : ((strOfNums (d.file f).stands).toList == want.toList) = r) :
    Calls Try.prog 19 #[.pointer (some ⟨D, 0, none⟩), .int .i64 f, .string want] w fun e w' => e = .returned (.bool r) ∧ NowT w0 A D d w w' := by
  obtain ⟨ρ, h1, h2, h4, h3⟩ := h
  subst hr
  exact (stands_law h1 f (d.file f) (h1.file f hf) hf (ok.file f) hoff want).mono fun e w' ⟨he, hb⟩ => ⟨he, nowv_below ⟨ρ, h1, h2, h4, h3⟩ hb⟩
theorem nowv_stands0 {w0 w : World} {A : List Nat} {D : Nat} {d : Dk} {r : Bool} (h : NowV w0 A D d w) (ok : DOk d) (hoff : d.off = false) (want : ByteArray) (hr : ((strOfNums (d.file 0).stands).toList == want.toList) = r) :
    Calls Try.prog 19 #[.pointer (some ⟨D, 0, none⟩), .int .i64 0, .string want] w fun e w' => e = .returned (.bool r) ∧ NowT w0 A D d w w' := nowv_stands h ok hoff 0 (by omega) want hr
theorem nowv_stands1 {w0 w : World} {A : List Nat} {D : Nat} {d : Dk} {r : Bool} (h : NowV w0 A D d w) (ok : DOk d) (hoff : d.off = false) (want : ByteArray) (hr : ((strOfNums (d.file 1).stands).toList == want.toList) = r) :
    Calls Try.prog 19 #[.pointer (some ⟨D, 0, none⟩), .int .i64 1, .string want] w fun e w' => e = .returned (.bool r) ∧ NowT w0 A D d w w' := nowv_stands h ok hoff 1 (by omega) want hr
/-- Read, where it may be -/
theorem nowv_read {w0 w : World} {A : List Nat} {D : Nat} {d : Dk} (h : NowV w0 A D d w) (ok : DOk d) (hoff : d.off = false) (f : Nat) (hf : f < 2) :
    Calls Try.prog 21 #[.pointer (some ⟨D, 0, none⟩), .int .i64 f] w fun e w' => ∃ v, e = .returned (.tuple #[v, .int .i64 0]) ∧ RowO w' w.heap.size v (d.file f).stands ∧ Below w.heap.size w w' ∧ NowT w0 A D d w w' := by
  obtain ⟨ρ, h1, h2, h4, h3⟩ := h
  exact (read_at h1 f (d.file f) (h1.file f hf) hf (ok.file f) hoff).mono fun e w' ⟨v, he, hr, hb⟩ => ⟨v, he, hr, hb, nowv_below ⟨ρ, h1, h2, h4, h3⟩ hb⟩
/-- Read, where it may not be -/
theorem nowv_read_no {w0 w : World} {A : List Nat} {D : Nat} {d : Dk} (h : NowV w0 A D d w) (f : Int) (hm : mayv d.off f ≠ 0) :
    Calls Try.prog 21 #[.pointer (some ⟨D, 0, none⟩), .int .i64 f] w fun e w' => e = .returned (.tuple #[.slice none 0 0, .int .i64 (mayv d.off f)]) ∧ NowT w0 A D d w w' := by
  obtain ⟨ρ, h1, h2, h4, h3⟩ := h
  exact (read_no h1 f hm).mono fun e w' ⟨he, hw⟩ => ⟨he, by rw [hw]; exact nowv_below ⟨ρ, h1, h2, h4, h3⟩ (Below.refl _ _)⟩
end Go.Proofs.Ytfohemgfiidokaa
