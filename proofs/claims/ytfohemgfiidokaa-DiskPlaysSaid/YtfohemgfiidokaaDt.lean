/- A disk that a call of its own has made, and how it stands now. -/
import Derived.Test.YtfohemgfiidokaaDs
import Derived.Test.YtfohemgfiidokaaDp
namespace Go.Proofs.Ytfohemgfiidokaa
open Go.RowKit Go.Sort

/-- bytes that lie below lo, or from hi on -/
def RdM (lo hi : Nat) (w : World) (v : Value) (xs : List Int) : Prop :=
  (v = .slice none 0 0 ∧ xs = []) ∨ ∃ a g o cap, v = .slice (some a) xs.length cap ∧ xs.length ≤ cap ∧ (0 < xs.length → a = ⟨g, o, none⟩ ∧ (g < lo ∨ hi ≤ g)) ∧ ∀ j, j < xs.length → w.cell? ⟨g, o + j, none⟩ = some (.int .u8 (xs[j]?.getD 0))
theorem RdM.rds {lo hi : Nat} {w : World} {v : Value} {xs : List Int} {ρ : Nat → Nat} (h : RdM lo hi w v xs) (h0 : ∀ g, g < lo → ρ g = 0) (h1 : ∀ g, hi ≤ g → ρ g = 0) : RdS w ρ v xs := by
  rcases h with h | ⟨a, g, o, cap, e1, e2, e3, e4⟩
  · exact .inl h
  · exact .inr ⟨a, g, o, cap, e1, e2, fun hl => ⟨(e3 hl).1, by rcases (e3 hl).2 with e | e; exact h0 g e; exact h1 g e⟩, e4⟩
/-- a new row -/
theorem RdM.new (lo : Nat) (w : World) (t : TypeId) (m : Nat × Nat) (xs : List Int) (n cap : Nat) (hn : xs.length = n) (hc : n ≤ cap) (cs : Array Value) (hcs : ∀ j, j < xs.length → cs[j]? = some (.int .u8 (xs[j]?.getD 0))) : RdM lo w.heap.size (w.alloc (.cells cs t m)) (.slice (some ⟨w.heap.size, 0, none⟩) n cap) xs :=
  .inr ⟨_, w.heap.size, 0, cap, by rw [hn], by omega, fun _ => ⟨rfl, .inr (Nat.le_refl _)⟩, fun j hj => by rw [cell_of_row _ _ _ _ _ _ (heap_alloc_new _ _), Nat.zero_add]; exact hcs j hj⟩

def Now (w0 : World) (D : Nat) (d : Dk) (w : World) : Prop := ∃ ρ, DiskAt w ρ w0.heap.size D d ∧ (∀ g, g < w0.heap.size → ρ g = 0) ∧ Below w0.heap.size w0 w
theorem Now.keep {w0 w W : World} {D : Nat} {d : Dk} (h : Now w0 D d w) (hb : Below w.heap.size w W) : Now w0 D d W := by
  obtain ⟨ρ, h1, h2, h3⟩ := h
  exact ⟨ρ, h1.keep hb, h2, bel_call h3 hb⟩
theorem Now.below {w0 w : World} {D : Nat} {d : Dk} (h : Now w0 D d w) : Below w0.heap.size w0 w := by obtain ⟨_, _, _, h⟩ := h; exact h
theorem now_left {w0 w w' : World} {D : Nat} {d' : Dk} {ρ : Nat → Nat} (h2 : ∀ g, g < w0.heap.size → ρ g = 0) (h3 : Below w0.heap.size w0 w) (hl : Left ρ w0.heap.size D w d' w') : Now w0 D d' w' := by
  obtain ⟨ρ', k1, k2⟩ := hl
  have hs := h3.size
  exact ⟨ρ', k1, fun g hg => (k2.role g (by omega)).trans (h2 g hg), h3.trans (k2.below fun g hg => ⟨by omega, .inl (h2 g hg)⟩)⟩
theorem now_new (most : Int) (w : World) (h0 : 1 ≤ most) (h1 : most ≤ 4194304) :
    Calls Try.prog 10 #[.int .i64 most] w fun e w' => e = .returned (.tuple #[.pointer (some ⟨w.heap.size, 0, none⟩), .int .i64 0]) ∧ Now w w.heap.size ⟨⟨[], []⟩, ⟨[], []⟩, most, false, false, 0⟩ w' :=
  (new_at most w h0 h1).mono fun e w' ⟨he, hd, hb⟩ => ⟨he, _, hd, fun g hg => by unfold roleAt; rw [if_neg (by omega)], hb⟩
theorem now_write {w0 w W : World} {D : Nat} {d d' : Dk} {r : Int} (h : Now w0 D d w) (hb : Below w.heap.size w W) (ok : DOk d) (f : Int) (v : Value) (b : List Int) (hv : RdM w0.heap.size w.heap.size W v b) (hbl : b.length ≤ 1000000000) (hr : d.write f b = (r, d')) :
    Calls Try.prog 16 #[.pointer (some ⟨D, 0, none⟩), .int .i64 f, v] W fun e w' => e = .returned (.int .i64 r) ∧ Now w0 D d' w' := by
  obtain ⟨ρ, h1, h2, h3⟩ := h
  have := write_any (h1.keep hb) ok f v b (hv.rds h2 h1.fresh) hbl
  rw [hr] at this
  exact this.mono fun e w' ⟨he, hl⟩ => ⟨he, now_left h2 (bel_call h3 hb) hl⟩
theorem now_cut {w0 w : World} {D : Nat} {d d' : Dk} {r : Int} (h : Now w0 D d w) (ok : DOk d) (f n : Int) (hr : d.cut f n = (r, d')) :
    Calls Try.prog 23 #[.pointer (some ⟨D, 0, none⟩), .int .i64 f, .int .i64 n] w fun e w' => e = .returned (.int .i64 r) ∧ Now w0 D d' w' := by
  obtain ⟨ρ, h1, h2, h3⟩ := h
  have := cut_any h1 ok f n
  rw [hr] at this
  exact this.mono fun e w' ⟨he, hl⟩ => ⟨he, now_left h2 h3 hl⟩
theorem now_sync {w0 w : World} {D : Nat} {d d' : Dk} {r : Int} (h : Now w0 D d w) (ok : DOk d) (f : Int) (hr : d.sync f = (r, d')) :
    Calls Try.prog 15 #[.pointer (some ⟨D, 0, none⟩), .int .i64 f] w fun e w' => e = .returned (.int .i64 r) ∧ Now w0 D d' w' := by
  obtain ⟨ρ, h1, h2, h3⟩ := h
  have := sync_any h1 ok f
  rw [hr] at this
  exact this.mono fun e w' ⟨he, hl⟩ => ⟨he, now_left h2 h3 hl⟩
theorem now_fuse {w0 w : World} {D : Nat} {d d' : Dk} {r : Int} (h : Now w0 D d w) (n : Int) (hr : d.fuse n = (r, d')) :
    Calls Try.prog 22 #[.pointer (some ⟨D, 0, none⟩), .int .i64 n] w fun e w' => e = .returned (.int .i64 r) ∧ Now w0 D d' w' := by
  obtain ⟨ρ, h1, h2, h3⟩ := h
  have := fuse_any h1 n
  rw [hr] at this
  exact this.mono fun e w' ⟨he, hl⟩ => ⟨he, now_left h2 h3 hl⟩
theorem now_off {w0 w : World} {D : Nat} {d d' : Dk} {r : Int} (h : Now w0 D d w) (hr : d.offc = (r, d')) :
    Calls Try.prog 17 #[.pointer (some ⟨D, 0, none⟩)] w fun e w' => e = .returned (.int .i64 r) ∧ Now w0 D d' w' := by
  obtain ⟨ρ, h1, h2, h3⟩ := h
  have := off_any h1
  rw [hr] at this
  exact this.mono fun e w' ⟨he, hl⟩ => ⟨he, now_left h2 h3 hl⟩
/-- picks that lie below lo, or from hi on -/
def PkM (lo hi : Nat) (w : World) (p : Option Addr) (len : Nat) (pk : Nat → Int) : Prop :=
  (∀ i, i < 2 → i < len → ∃ g o, p = some ⟨g, o, none⟩ ∧ w.cell? ⟨g, o + i, none⟩ = some (.int .i64 (pk i)) ∧ (g < lo ∨ hi ≤ g)) ∧ (∀ i, i < 2 → len ≤ i → pk i = 0) ∧
    (∀ i, i < 2 → -9223372036854775808 ≤ pk i) ∧ (∀ i, i < 2 → pk i ≤ 9223372036854775807)
theorem now_on {w0 w W : World} {D : Nat} {d d' : Dk} {r : Int} (h : Now w0 D d w) (hb : Below w.heap.size w W) (ok : DOk d) (p : Option Addr) (len cap : Nat) (pk : Nat → Int) (hp : PkM w0.heap.size w.heap.size W p len pk) (hr : d.onc pk = (r, d')) :
    Calls Try.prog 18 #[.pointer (some ⟨D, 0, none⟩), .slice p len cap] W fun e w' => e = .returned (.int .i64 r) ∧ Now w0 D d' w' := by
  obtain ⟨ρ, h1, h2, h3⟩ := h
  have := on_any (h1.keep hb) ok p len cap pk ⟨fun i hi hl => by
    obtain ⟨g, o, e1, e2, e3⟩ := hp.1 i hi hl
    exact ⟨g, o, e1, e2, by rcases e3 with e | e; exact h2 g e; exact h1.fresh g e⟩, hp.2⟩
  rw [hr] at this
  exact this.mono fun e w' ⟨he, hl⟩ => ⟨he, now_left h2 (bel_call h3 hb) hl⟩
theorem now_room {w0 w : World} {D : Nat} {d : Dk} {r : Int} (h : Now w0 D d w) (ok : DOk d) (hr : roomF d = r) :
    Calls Try.prog 13 #[.pointer (some ⟨D, 0, none⟩)] w fun e w' => e = .returned (.int .i64 r) ∧ Now w0 D d w' := by
  obtain ⟨ρ, h1, h2, h3⟩ := h
  subst hr
  exact (room_at h1 ok.1 ok.2.1 ok.2.2.1 ok.2.2.2).mono fun e w' ⟨he, hb⟩ => ⟨he, ρ, h1.keep hb, h2, bel_call h3 hb⟩
theorem now_stands {w0 w : World} {D : Nat} {d : Dk} {r : Bool} (h : Now w0 D d w) (ok : DOk d) (hoff : d.off = false) (f : Nat) (hf : f < 2) (want : ByteArray) (hr : ((strOfNums (d.file f).stands).toList == want.toList) = r) :
    Calls Try.prog 19 #[.pointer (some ⟨D, 0, none⟩), .int .i64 f, .string want] w fun e w' => e = .returned (.bool r) ∧ Now w0 D d w' := by
  obtain ⟨ρ, h1, h2, h3⟩ := h
  subst hr
  exact (stands_law h1 f (d.file f) (h1.file f hf) hf (ok.file f) hoff want).mono fun e w' ⟨he, hb⟩ => ⟨he, ρ, h1.keep hb, h2, bel_call h3 hb⟩
theorem now_stands0 {w0 w : World} {D : Nat} {d : Dk} {r : Bool} (h : Now w0 D d w) (ok : DOk d) (hoff : d.off = false) (want : ByteArray) (hr : ((strOfNums (d.file 0).stands).toList == want.toList) = r) :
    Calls Try.prog 19 #[.pointer (some ⟨D, 0, none⟩), .int .i64 0, .string want] w fun e w' => e = .returned (.bool r) ∧ Now w0 D d w' := now_stands h ok hoff 0 (by omega) want hr
theorem now_stands1 {w0 w : World} {D : Nat} {d : Dk} {r : Bool} (h : Now w0 D d w) (ok : DOk d) (hoff : d.off = false) (want : ByteArray) (hr : ((strOfNums (d.file 1).stands).toList == want.toList) = r) :
    Calls Try.prog 19 #[.pointer (some ⟨D, 0, none⟩), .int .i64 1, .string want] w fun e w' => e = .returned (.bool r) ∧ Now w0 D d w' := now_stands h ok hoff 1 (by omega) want hr
/-- Read, where it may be -/
theorem now_read {w0 w : World} {D : Nat} {d : Dk} (h : Now w0 D d w) (ok : DOk d) (hoff : d.off = false) (f : Nat) (hf : f < 2) :
    Calls Try.prog 21 #[.pointer (some ⟨D, 0, none⟩), .int .i64 f] w fun e w' => ∃ v, e = .returned (.tuple #[v, .int .i64 0]) ∧ RowO w' w.heap.size v (d.file f).stands ∧ Below w.heap.size w w' ∧ Now w0 D d w' := by
  obtain ⟨ρ, h1, h2, h3⟩ := h
  exact (read_at h1 f (d.file f) (h1.file f hf) hf (ok.file f) hoff).mono fun e w' ⟨v, he, hr, hb⟩ => ⟨v, he, hr, hb, ρ, h1.keep hb, h2, bel_call h3 hb⟩
/-- Read, where it may not be -/
theorem now_read_no {w0 w : World} {D : Nat} {d : Dk} (h : Now w0 D d w) (f : Int) (hm : mayv d.off f ≠ 0) :
    Calls Try.prog 21 #[.pointer (some ⟨D, 0, none⟩), .int .i64 f] w fun e w' => e = .returned (.tuple #[.slice none 0 0, .int .i64 (mayv d.off f)]) ∧ Now w0 D d w' := by
  obtain ⟨ρ, h1, h2, h3⟩ := h
  exact (read_no h1 f hm).mono fun e w' ⟨he, hw⟩ => ⟨he, by rw [hw]; exact ⟨ρ, h1, h2, h3⟩⟩
end Go.Proofs.Ytfohemgfiidokaa
