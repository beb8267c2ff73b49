/- The methods of a disk in memory, whichever way they go. A disk that a call of its own has made, and how it stands now. A disk beside variables of the law's own: the disk's calls leave those as they were. -/
import Derived.Test.YtfohemgfiidokaaGreatDoorMc
namespace Go.Proofs.YtfohemgfiidokaaGreatDoor
open Go.RowKit Go.Sort

/-- a slice of bytes that lies in a block that nobody writes -/
def RdS (w : World) (ρ : Nat → Nat) (v : Value) (xs : List Int) : Prop :=
  (v = .slice none 0 0 ∧ xs = []) ∨ ∃ a g o cap, v = .slice (some a) xs.length cap ∧ xs.length ≤ cap ∧ (0 < xs.length → a = ⟨g, o, none⟩ ∧ ρ g = 0) ∧ ∀ j, j < xs.length → w.cell? ⟨g, o + j, none⟩ = some (.int .u8 (xs[j]?.getD 0))
theorem RdS.rdb {w : World} {ρ : Nat → Nat} {v : Value} {xs : List Int} (h : RdS w ρ v xs) : RdB w v xs := by
  rcases h with h | ⟨a, g, o, cap, h1, h2, h3, h4⟩
  · exact .inl h
  · exact .inr ⟨a, g, o, cap, h1, h2, fun hl => (h3 hl).1, h4⟩
theorem RdS.mv {w w' : World} {ρ ρ' : Nat → Nat} {v : Value} {xs : List Int} (h : RdS w ρ v xs) (m : Mv ρ ρ' w w') : RdS w' ρ' v xs := by
  rcases h with h | ⟨a, g, o, cap, h1, h2, h3, h4⟩
  · exact .inl h
  · refine .inr ⟨a, g, o, cap, h1, h2, fun hl => ⟨(h3 hl).1, ?_⟩, fun j hj => ?_⟩
    · rw [m.role g (block_lt_of_cell (h4 0 hl))]; exact (h3 hl).2
    · have hc := h4 j hj
      rw [World.cell?_of_block (m.block g (block_lt_of_cell hc) (.inl (h3 (by omega)).2))]; exact hc
theorem RdS.shape {w : World} {ρ : Nat → Nat} {v : Value} {xs : List Int} (h : RdS w ρ v xs) : ∃ p cap, v = .slice p xs.length cap := by
  rcases h with ⟨h1, h2⟩ | ⟨a, g, o, cap, h1, -⟩
  · exact ⟨none, 0, by rw [h1, h2]; rfl⟩
  · exact ⟨_, _, h1⟩
theorem RowO.rds {w : World} {B : Nat} {v : Value} {xs : List Int} {ρ : Nat → Nat} (h : RowO w B v xs) (hf : ∀ k, B ≤ k → ρ k = 0) : RdS w ρ v xs := by
  rcases h.rdr hf with h | ⟨g, cap, h1, h2, h3, h4, h5⟩
  · exact .inl h
  · exact .inr ⟨⟨g, 0, none⟩, g, 0, cap, h1, h2, fun _ => ⟨rfl, h3⟩, fun j hj => by rw [Nat.zero_add]; exact h5 j hj⟩

def Dk.put (d : Dk) (f : Nat) (c : Chg) : Dk := d.setFile f ⟨(d.file f).s, (d.file f).l ++ [c]⟩
def Dk.goes (d : Dk) (g : Dk → Dk) : Int × Dk := if d.fused = true ∧ d.left = 0 then (8, { d with off := true }) else (0, g d.tick)
def Dk.write (d : Dk) (f : Int) (b : List Int) : Int × Dk :=
  if mayv d.off f ≠ 0 then (mayv d.off f, d) else if roomF d < b.length then (7, d) else d.goes fun d => d.put f.toNat (.wr b)
def Dk.cut (d : Dk) (f n : Int) : Int × Dk :=
  if mayv d.off f ≠ 0 then (mayv d.off f, d) else if n < 0 ∨ (d.file f.toNat).stands.length < n then (1, d) else d.goes fun d => d.put f.toNat (.ct n)
def Dk.sync (d : Dk) (f : Int) : Int × Dk :=
  if mayv d.off f ≠ 0 then (mayv d.off f, d) else d.goes fun d => d.setFile f.toNat ⟨(d.file f.toNat).stands, []⟩
def Dk.fuse (d : Dk) (n : Int) : Int × Dk := if d.off = true then (8, d) else (0, { d with fused := decide (0 ≤ n), left := n })
def Dk.offc (d : Dk) : Int × Dk := if d.off = true then (8, d) else (0, { d with off := true })
def Dk.onc (d : Dk) (pk : Nat → Int) : Int × Dk := if d.off = true then (0, { d.on pk 2 with off := false, fused := false }) else (3, d)
def DOk (d : Dk) : Prop := Small d.f0 ∧ Small d.f1 ∧ 0 ≤ d.most ∧ d.most ≤ 4194304
theorem DOk.file {d : Dk} (h : DOk d) (f : Nat) : Small (d.file f) := by rcases f with _ | f; exact h.1; exact h.2.1
/-- what a call of a disk leaves -/
def Left (ρ : Nat → Nat) (B D : Nat) (w : World) (d : Dk) (w' : World) : Prop := ∃ ρ', DiskAt w' ρ' B D d ∧ Mv ρ ρ' w w'
theorem Left.below {w w' : World} {ρ : Nat → Nat} {B D : Nat} {d : Dk} (h : DiskAt w ρ B D d) (hb : Below w.heap.size w w') : Left ρ B D w d w' := ⟨ρ, h.keep hb, Mv.ofBelow ρ hb⟩

theorem may_zero {off : Bool} {f : Int} (h : mayv off f = 0) : off = false ∧ ∃ k : Nat, k < 2 ∧ f = k := by
  unfold mayv at h
  split at h
  · cases h
  · split at h
    · cases h
    · rename_i h1 h2
      exact ⟨by simpa using h1, f.toNat, by omega, by omega⟩

theorem burns_false {d : Dk} (h : ¬ (d.fused = true ∧ d.left = 0)) : (d.fused && d.left == 0) = false := by
  cases hf : d.fused
  · rfl
  · simp; exact fun e => h ⟨hf, e⟩

theorem goes_at {w W : World} {ρ : Nat → Nat} {B D : Nat} {d : Dk} {G : Dk → Dk} (h : DiskAt w ρ B D d) (hb : Below w.heap.size w W) (n : Nat) (cs : Array Value)
    (burns : d.fused = true → d.left = 0 → Calls Tryz.prog 76 #[.pointer (some ⟨D, 0, none⟩), .func (.func n) #[] cs] W fun e w' => e = .returned (.int .i64 8) ∧ w' = W.setCell ⟨D, 5, none⟩ (.bool true))
    (goes : ∀ K : World → Prop, (d.fused && d.left == 0) = false → Calls Tryz.prog n cs (W.setCell ⟨D, 7, none⟩ (.int .i64 (IntKind.i64.wrap (d.left - 1)))) (fun e w' => e = .returned undef ∧ K w') → Calls Tryz.prog 76 #[.pointer (some ⟨D, 0, none⟩), .func (.func n) #[] cs] W fun e w' => e = .returned (.int .i64 0) ∧ K w')
    (cl : DiskAt (W.setCell ⟨D, 7, none⟩ (.int .i64 (IntKind.i64.wrap (d.left - 1)))) ρ B D d.tick → Calls Tryz.prog n cs (W.setCell ⟨D, 7, none⟩ (.int .i64 (IntKind.i64.wrap (d.left - 1)))) fun e w' => e = .returned undef ∧ Left ρ B D (W.setCell ⟨D, 7, none⟩ (.int .i64 (IntKind.i64.wrap (d.left - 1)))) (G d.tick) w') :
    Calls Tryz.prog 76 #[.pointer (some ⟨D, 0, none⟩), .func (.func n) #[] cs] W fun e w' => e = .returned (.int .i64 (d.goes G).1) ∧ Left ρ B D w (d.goes G).2 w' := by
  have hd := h.keep hb
  unfold Dk.goes
  by_cases hbu : d.fused = true ∧ d.left = 0
  · rw [if_pos hbu]
    exact (burns hbu.1 hbu.2).mono fun e w' ⟨he, hw⟩ => ⟨he, by rw [hw]; exact ⟨ρ, hd.setOff true, (Mv.ofBelow ρ hb).set h.role 5 _⟩⟩
  · rw [if_neg hbu]
    have hd2 := hd.setLeft (IntKind.i64.wrap (d.left - 1))
    refine (goes _ (burns_false hbu) (cl hd2)).mono fun e w' ⟨he, ρ', h1, h2⟩ => ⟨he, ρ', h1, ((Mv.ofBelow ρ hb).set h.role 7 _).trans h2⟩

theorem tick_file (d : Dk) (f : Nat) : d.tick.file f = d.file f := by rcases f with _ | f <;> rfl

theorem write_any {w : World} {ρ : Nat → Nat} {B D : Nat} {d : Dk} (h : DiskAt w ρ B D d) (ok : DOk d) (f : Int) (v : Value) (b : List Int) (hv : RdS w ρ v b) (hbl : b.length ≤ 1000000000) :
    Calls Tryz.prog 41 #[.pointer (some ⟨D, 0, none⟩), .int .i64 f, v] w fun e w' => e = .returned (.int .i64 (d.write f b).1) ∧ Left ρ B D w (d.write f b).2 w' := by
  obtain ⟨p, cap, rfl⟩ := hv.shape
  unfold Dk.write
  by_cases hm : mayv d.off f = 0
  · rw [if_neg (by simp [hm])]
    obtain ⟨hoff, k, hk, rfl⟩ := may_zero hm
    by_cases hr : roomF d < b.length
    · rw [if_pos hr]
      exact (write_full h k hk p b.length cap ok.1 ok.2.1 ok.2.2.1 ok.2.2.2 hr hoff).mono fun e w' ⟨he, hb⟩ => ⟨he, Left.below h hb⟩
    · rw [if_neg hr]
      refine write_w h k hk p b.length cap ok.1 ok.2.1 ok.2.2.1 ok.2.2.2 (by omega) hoff _ _ fun W hbW cd cf cn => ?_
      have hlt := h.lt
      have hd := h.keep hbW
      refine goes_at h hbW 82 _ (fun h1 h2 => goes_burns_37 hd _ _ _ h1 h2) (fun K h1 h2 => goes_37 hd _ _ _ K _ rfl h1 h2) (fun hd2 => ?_)
      have m7 : Mv ρ ρ w (W.setCell ⟨D, 7, none⟩ (.int .i64 (IntKind.i64.wrap (d.left - 1)))) := (Mv.ofBelow ρ hbW).set h.role 7 _
      have := write1_c w.heap.size (w.heap.size + 1) (w.heap.size + 1 + 1) (.slice p b.length cap) b hd2 hk (by rw [tick_file]; exact (ok.file k).2) (hv.mv m7).rdb hbl
        ((World.cell?_of_block (set_heap (show w.heap.size ≠ D by omega))).trans cd) ((World.cell?_of_block (set_heap (show w.heap.size + 1 ≠ D by omega))).trans cf) ((World.cell?_of_block (set_heap (show w.heap.size + 1 + 1 ≠ D by omega))).trans cn)
        (h.fresh _ (by omega)) (h.fresh _ (by omega)) (h.fresh _ (by omega))
      exact this
  · rw [if_pos (by simp [hm])]
    exact (write_no h f p b.length cap hm).mono fun e w' ⟨he, hb⟩ => ⟨he, Left.below h hb⟩

theorem cut_any {w : World} {ρ : Nat → Nat} {B D : Nat} {d : Dk} (h : DiskAt w ρ B D d) (ok : DOk d) (f n : Int) :
    Calls Tryz.prog 52 #[.pointer (some ⟨D, 0, none⟩), .int .i64 f, .int .i64 n] w fun e w' => e = .returned (.int .i64 (d.cut f n).1) ∧ Left ρ B D w (d.cut f n).2 w' := by
  unfold Dk.cut
  by_cases hm : mayv d.off f = 0
  · rw [if_neg (by simp [hm])]
    obtain ⟨hoff, k, hk, rfl⟩ := may_zero hm
    by_cases hn : n < 0
    · rw [if_pos (.inl hn)]
      exact (cut_neg h k hk n hn hoff).mono fun e w' ⟨he, hb⟩ => ⟨he, Left.below h hb⟩
    by_cases hr : (d.file k).stands.length < n
    · rw [if_pos (.inr hr)]
      exact (cut_arg h k hk n (ok.file k) (by omega) hr hoff).mono fun e w' ⟨he, hb⟩ => ⟨he, Left.below h hb⟩
    · rw [if_neg (by intro e; rcases e with e | e; exact hn e; exact hr e)]
      refine cut_w h k hk n (by omega) (ok.file k) (by omega) hoff _ _ fun W hbW cd cf cn => ?_
      have hlt := h.lt
      have hd := h.keep hbW
      refine goes_at h hbW 85 _ (fun h1 h2 => goes_burns_39 hd _ _ _ h1 h2) (fun K h1 h2 => goes_39 hd _ _ _ K _ rfl h1 h2) (fun hd2 => ?_)
      have := cut1_c w.heap.size (w.heap.size + 1) (w.heap.size + 1 + 1) n hd2 hk (by omega) (by rw [tick_file]; exact (ok.file k).2)
        ((World.cell?_of_block (set_heap (show w.heap.size ≠ D by omega))).trans cd) ((World.cell?_of_block (set_heap (show w.heap.size + 1 ≠ D by omega))).trans cf) ((World.cell?_of_block (set_heap (show w.heap.size + 1 + 1 ≠ D by omega))).trans cn)
        (h.fresh _ (by omega)) (h.fresh _ (by omega)) (h.fresh _ (by omega))
      exact this
  · rw [if_pos (by simp [hm])]
    exact (cut_no h f n hm).mono fun e w' ⟨he, hb⟩ => ⟨he, Left.below h hb⟩

theorem sync_any {w : World} {ρ : Nat → Nat} {B D : Nat} {d : Dk} (h : DiskAt w ρ B D d) (ok : DOk d) (f : Int) :
    Calls Tryz.prog 35 #[.pointer (some ⟨D, 0, none⟩), .int .i64 f] w fun e w' => e = .returned (.int .i64 (d.sync f).1) ∧ Left ρ B D w (d.sync f).2 w' := by
  unfold Dk.sync
  by_cases hm : mayv d.off f = 0
  · rw [if_neg (by simp [hm])]
    obtain ⟨hoff, k, hk, rfl⟩ := may_zero hm
    unfold Dk.goes
    by_cases hbu : d.fused = true ∧ d.left = 0
    · rw [if_pos hbu]
      exact (sync_burn h k hk hoff hbu.1 hbu.2).mono fun e w' ⟨he, h1, h2⟩ => ⟨he, ρ, h1, h2⟩
    · rw [if_neg hbu]
      have := sync_at h k hk (ok.file k) hoff (burns_false hbu)
      exact this.mono fun e w' ⟨he, h1, h2⟩ => ⟨he, ρ, by simp only [tick_file, Int.toNat_natCast]; exact h1, h2⟩
  · rw [if_pos (by simp [hm])]
    exact (sync_no h f hm).mono fun e w' ⟨he, hb⟩ => ⟨he, Left.below h hb⟩

theorem fuse_any {w : World} {ρ : Nat → Nat} {B D : Nat} {d : Dk} (h : DiskAt w ρ B D d) (n : Int) :
    Calls Tryz.prog 21 #[.pointer (some ⟨D, 0, none⟩), .int .i64 n] w fun e w' => e = .returned (.int .i64 (d.fuse n).1) ∧ Left ρ B D w (d.fuse n).2 w' := by
  unfold Dk.fuse
  cases hoff : d.off
  · exact (fuse_at h n hoff).mono fun e w' ⟨he, hw⟩ => ⟨he, by rw [hw]; exact ⟨ρ, by simpa [hoff] using (h.setFused (decide (0 ≤ n))).setLeft n, ((Mv.refl ρ w).set h.role 6 _).set h.role 7 _⟩⟩
  · exact (fuse_no h n hoff).mono fun e w' ⟨he, hw⟩ => ⟨he, by rw [hw]; exact ⟨ρ, h, Mv.refl ρ w⟩⟩
theorem off_any {w : World} {ρ : Nat → Nat} {B D : Nat} {d : Dk} (h : DiskAt w ρ B D d) :
    Calls Tryz.prog 17 #[.pointer (some ⟨D, 0, none⟩)] w fun e w' => e = .returned (.int .i64 d.offc.1) ∧ Left ρ B D w d.offc.2 w' := by
  unfold Dk.offc
  cases hoff : d.off
  · exact (off_at h hoff).mono fun e w' ⟨he, hw⟩ => ⟨he, by rw [hw]; exact ⟨ρ, h.setOff true, (Mv.refl ρ w).set h.role 5 _⟩⟩
  · exact (off_no h hoff).mono fun e w' ⟨he, hw⟩ => ⟨he, by rw [hw]; exact ⟨ρ, h, Mv.refl ρ w⟩⟩
/-- picks of an On -/
def PicksAt (w : World) (ρ : Nat → Nat) (p : Option Addr) (len : Nat) (pk : Nat → Int) : Prop :=
  (∀ i, i < 2 → i < len → ∃ g o, p = some ⟨g, o, none⟩ ∧ w.cell? ⟨g, o + i, none⟩ = some (.int .i64 (pk i)) ∧ ρ g = 0) ∧ (∀ i, i < 2 → len ≤ i → pk i = 0) ∧
    (∀ i, i < 2 → -9223372036854775808 ≤ pk i) ∧ (∀ i, i < 2 → pk i ≤ 9223372036854775807)
theorem on_any {w : World} {ρ : Nat → Nat} {B D : Nat} {d : Dk} (h : DiskAt w ρ B D d) (ok : DOk d) (p : Option Addr) (len cap : Nat) (pk : Nat → Int) (hp : PicksAt w ρ p len pk) :
    Calls Tryz.prog 18 #[.pointer (some ⟨D, 0, none⟩), .slice p len cap] w fun e w' => e = .returned (.int .i64 (d.onc pk).1) ∧ Left ρ B D w (d.onc pk).2 w' := by
  unfold Dk.onc
  cases hoff : d.off
  · exact (on_no h _ hoff).mono fun e w' ⟨he, hw⟩ => ⟨he, by rw [hw]; exact ⟨ρ, h, Mv.refl ρ w⟩⟩
  · exact (on_at p len cap pk h ok.1 ok.2.1 hoff hp.1 hp.2.1 hp.2.2.1 hp.2.2.2).mono fun e w' ⟨he, h1, h2⟩ => ⟨he, ρ, h1, h2⟩
end Go.Proofs.YtfohemgfiidokaaGreatDoor
namespace Go.Proofs.YtfohemgfiidokaaGreatDoor
open Go.RowKit Go.Sort

/-- bytes that lie below lo, or from hi on -/
def RdM (lo hi : Nat) (w : World) (v : Value) (xs : List Int) : Prop :=
  (v = .slice none 0 0 ∧ xs = []) ∨ ∃ a g o cap, v = .slice (some a) xs.length cap ∧ xs.length ≤ cap ∧ (0 < xs.length → a = ⟨g, o, none⟩ ∧ (g < lo ∨ hi ≤ g)) ∧ ∀ j, j < xs.length → w.cell? ⟨g, o + j, none⟩ = some (.int .u8 (xs[j]?.getD 0))
theorem RdM.rds {lo hi : Nat} {w : World} {v : Value} {xs : List Int} {ρ : Nat → Nat} (h : RdM lo hi w v xs) (h0 : ∀ g, g < lo → ρ g = 0) (h1 : ∀ g, hi ≤ g → ρ g = 0) : RdS w ρ v xs := by
  rcases h with h | ⟨a, g, o, cap, e1, e2, e3, e4⟩
  · exact .inl h
  · exact .inr ⟨a, g, o, cap, e1, e2, fun hl => ⟨(e3 hl).1, by rcases (e3 hl).2 with e | e; exact h0 g e; exact h1 g e⟩, e4⟩
/-- a new row -/
theorem RdM.new (lo : Nat) (w : World) (t : TypeId) (m : Nat × Nat) (xs : List Int) (n cap : Nat) (hn : xs.length = n) (hc : n ≤ cap) (cs : Array Value) (hcs : ∀ j, j < xs.length → cs[j]? = some (.int .u8 (xs[j]?.getD 0))) : RdM lo w.heap.size (w.alloc (.cells cs t m)) (.slice (some ⟨w.heap.size, 0, none⟩) n cap) xs :=
  .inr ⟨_, w.heap.size, 0, cap, by rw [hn], by omega, fun _ => ⟨rfl, .inr (Nat.le_refl _)⟩, fun j hj => by rw [cell_of_row _ _ _ _ _ _ (heap_alloc_new _ _), Nat.zero_add]; exact hcs j hj⟩

def Now (w0 : World) (D : Nat) (d : Dk) (w : World) : Prop := ∃ ρ, DiskAt w ρ w0.heap.size D d ∧ (∀ g, g < w0.heap.size → ρ g = 0) ∧ Below w0.heap.size w0 w
theorem Now.keep {w0 w W : World} {D : Nat} {d : Dk} (h : Now w0 D d w) (hb : Below w.heap.size w W) : Now w0 D d W := by
  obtain ⟨ρ, h1, h2, h3⟩ := h
  exact ⟨ρ, h1.keep hb, h2, bel_call h3 hb⟩
theorem Now.below {w0 w : World} {D : Nat} {d : Dk} (h : Now w0 D d w) : Below w0.heap.size w0 w := by obtain ⟨_, _, _, h⟩ := h; exact h
theorem now_left {w0 w w' : World} {D : Nat} {d' : Dk} {ρ : Nat → Nat} (h2 : ∀ g, g < w0.heap.size → ρ g = 0) (h3 : Below w0.heap.size w0 w) (hl : Left ρ w0.heap.size D w d' w') : Now w0 D d' w' := by
  obtain ⟨ρ', k1, k2⟩ := hl
  have hs := h3.size
  exact ⟨ρ', k1, fun g hg => (k2.role g (by omega)).trans (h2 g hg), h3.trans (k2.below fun g hg => ⟨by omega, .inl (h2 g hg)⟩)⟩
theorem now_new (most : Int) (w : World) (h0 : 1 ≤ most) (h1 : most ≤ 4194304) :
    Calls Tryz.prog 6 #[.int .i64 most] w fun e w' => e = .returned (.tuple #[.pointer (some ⟨w.heap.size, 0, none⟩), .int .i64 0]) ∧ Now w w.heap.size ⟨⟨[], []⟩, ⟨[], []⟩, most, false, false, 0⟩ w' :=
  (new_at most w h0 h1).mono fun e w' ⟨he, hd, hb⟩ => ⟨he, _, hd, fun g hg => by unfold roleAt; rw [if_neg (by omega)], hb⟩
theorem now_write {w0 w W : World} {D : Nat} {d d' : Dk} {r : Int} (h : Now w0 D d w) (hb : Below w.heap.size w W) (ok : DOk d) (f : Int) (v : Value) (b : List Int) (hv : RdM w0.heap.size w.heap.size W v b) (hbl : b.length ≤ 1000000000) (hr : d.write f b = (r, d')) :
    Calls Tryz.prog 41 #[.pointer (some ⟨D, 0, none⟩), .int .i64 f, v] W fun e w' => e = .returned (.int .i64 r) ∧ Now w0 D d' w' := by
  obtain ⟨ρ, h1, h2, h3⟩ := h
  have := write_any (h1.keep hb) ok f v b (hv.rds h2 h1.fresh) hbl
  rw [hr] at this
  exact this.mono fun e w' ⟨he, hl⟩ => ⟨he, now_left h2 (bel_call h3 hb) hl⟩
theorem now_cut {w0 w : World} {D : Nat} {d d' : Dk} {r : Int} (h : Now w0 D d w) (ok : DOk d) (f n : Int) (hr : d.cut f n = (r, d')) :
    Calls Tryz.prog 52 #[.pointer (some ⟨D, 0, none⟩), .int .i64 f, .int .i64 n] w fun e w' => e = .returned (.int .i64 r) ∧ Now w0 D d' w' := by
  obtain ⟨ρ, h1, h2, h3⟩ := h
  have := cut_any h1 ok f n
  rw [hr] at this
  exact this.mono fun e w' ⟨he, hl⟩ => ⟨he, now_left h2 h3 hl⟩
theorem now_sync {w0 w : World} {D : Nat} {d d' : Dk} {r : Int} (h : Now w0 D d w) (ok : DOk d) (f : Int) (hr : d.sync f = (r, d')) :
    Calls Tryz.prog 35 #[.pointer (some ⟨D, 0, none⟩), .int .i64 f] w fun e w' => e = .returned (.int .i64 r) ∧ Now w0 D d' w' := by
  obtain ⟨ρ, h1, h2, h3⟩ := h
  have := sync_any h1 ok f
  rw [hr] at this
  exact this.mono fun e w' ⟨he, hl⟩ => ⟨he, now_left h2 h3 hl⟩
theorem now_fuse {w0 w : World} {D : Nat} {d d' : Dk} {r : Int} (h : Now w0 D d w) (n : Int) (hr : d.fuse n = (r, d')) :
    Calls Tryz.prog 21 #[.pointer (some ⟨D, 0, none⟩), .int .i64 n] w fun e w' => e = .returned (.int .i64 r) ∧ Now w0 D d' w' := by
  obtain ⟨ρ, h1, h2, h3⟩ := h
  have := fuse_any h1 n
  rw [hr] at this
  exact this.mono fun e w' ⟨he, hl⟩ => ⟨he, now_left h2 h3 hl⟩
theorem now_off {w0 w : World} {D : Nat} {d d' : Dk} {r : Int} (h : Now w0 D d w) (hr : d.offc = (r, d')) :
    Calls Tryz.prog 17 #[.pointer (some ⟨D, 0, none⟩)] w fun e w' => e = .returned (.int .i64 r) ∧ Now w0 D d' w' := by
  obtain ⟨ρ, h1, h2, h3⟩ := h
  have := off_any h1
  rw [hr] at this
  exact this.mono fun e w' ⟨he, hl⟩ => ⟨he, now_left h2 h3 hl⟩
/-- picks that lie below lo, or from hi on -/
def PkM (lo hi : Nat) (w : World) (p : Option Addr) (len : Nat) (pk : Nat → Int) : Prop :=
  (∀ i, i < 2 → i < len → ∃ g o, p = some ⟨g, o, none⟩ ∧ w.cell? ⟨g, o + i, none⟩ = some (.int .i64 (pk i)) ∧ (g < lo ∨ hi ≤ g)) ∧ (∀ i, i < 2 → len ≤ i → pk i = 0) ∧
    (∀ i, i < 2 → -9223372036854775808 ≤ pk i) ∧ (∀ i, i < 2 → pk i ≤ 9223372036854775807)
theorem now_on {w0 w W : World} {D : Nat} {d d' : Dk} {r : Int} (h : Now w0 D d w) (hb : Below w.heap.size w W) (ok : DOk d) (p : Option Addr) (len cap : Nat) (pk : Nat → Int) (hp : PkM w0.heap.size w.heap.size W p len pk) (hr : d.onc pk = (r, d')) :
    Calls Tryz.prog 18 #[.pointer (some ⟨D, 0, none⟩), .slice p len cap] W fun e w' => e = .returned (.int .i64 r) ∧ Now w0 D d' w' := by
  obtain ⟨ρ, h1, h2, h3⟩ := h
  have := on_any (h1.keep hb) ok p len cap pk ⟨fun i hi hl => by
    obtain ⟨g, o, e1, e2, e3⟩ := hp.1 i hi hl
    exact ⟨g, o, e1, e2, by rcases e3 with e | e; exact h2 g e; exact h1.fresh g e⟩, hp.2⟩
  rw [hr] at this
  exact this.mono fun e w' ⟨he, hl⟩ => ⟨he, now_left h2 (bel_call h3 hb) hl⟩
theorem now_room {w0 w : World} {D : Nat} {d : Dk} {r : Int} (h : Now w0 D d w) (ok : DOk d) (hr : roomF d = r) :
    Calls Tryz.prog 16 #[.pointer (some ⟨D, 0, none⟩)] w fun e w' => e = .returned (.int .i64 r) ∧ Now w0 D d w' := by
  obtain ⟨ρ, h1, h2, h3⟩ := h
  subst hr
  exact (room_at h1 ok.1 ok.2.1 ok.2.2.1 ok.2.2.2).mono fun e w' ⟨he, hb⟩ => ⟨he, ρ, h1.keep hb, h2, bel_call h3 hb⟩
/-- Read, where it may be -/
theorem now_read {w0 w : World} {D : Nat} {d : Dk} (h : Now w0 D d w) (ok : DOk d) (hoff : d.off = false) (f : Nat) (hf : f < 2) :
    Calls Tryz.prog 24 #[.pointer (some ⟨D, 0, none⟩), .int .i64 f] w fun e w' => ∃ v, e = .returned (.tuple #[v, .int .i64 0]) ∧ RowO w' w.heap.size v (d.file f).stands ∧ Below w.heap.size w w' ∧ Now w0 D d w' := by
  obtain ⟨ρ, h1, h2, h3⟩ := h
  exact (read_at h1 f (d.file f) (h1.file f hf) hf (ok.file f) hoff).mono fun e w' ⟨v, he, hr, hb⟩ => ⟨v, he, hr, hb, ρ, h1.keep hb, h2, bel_call h3 hb⟩
/-- Read, where it may not be -/
theorem now_read_no {w0 w : World} {D : Nat} {d : Dk} (h : Now w0 D d w) (f : Int) (hm : mayv d.off f ≠ 0) :
    Calls Tryz.prog 24 #[.pointer (some ⟨D, 0, none⟩), .int .i64 f] w fun e w' => e = .returned (.tuple #[.slice none 0 0, .int .i64 (mayv d.off f)]) ∧ Now w0 D d w' := by
  obtain ⟨ρ, h1, h2, h3⟩ := h
  exact (read_no h1 f hm).mono fun e w' ⟨he, hw⟩ => ⟨he, by rw [hw]; exact ⟨ρ, h1, h2, h3⟩⟩
end Go.Proofs.YtfohemgfiidokaaGreatDoor
namespace Go.Proofs.YtfohemgfiidokaaGreatDoor
open Go.RowKit Go.Sort

/-- blocks of a role up to 3 as they were, roles as they were -/
theorem DiskAt.other {w w' : World} {ρ ρ' : Nat → Nat} {B D : Nat} {d : Dk} (h : DiskAt w ρ B D d) (hs : w.heap.size ≤ w'.heap.size) (hk : ∀ g, g < w.heap.size → ρ g ≤ 3 → ρ' g = ρ g ∧ w'.heap[g]? = w.heap[g]?) (hf : ∀ k, w'.heap.size ≤ k → ρ' k = 0) : DiskAt w' ρ' B D d := by
  have hD := h.lt
  have hr := h.role
  have hc : ∀ o, w'.cell? ⟨D, o, none⟩ = w.cell? ⟨D, o, none⟩ := fun o => World.cell?_of_block (hk D hD (by omega)).2
  exact ⟨h.base, (hk D hD (by omega)).1.trans hr, hf, h.f0.move hs (fun g hl hg => hk g hl (by omega)) (hc _) (hc _), h.f1.move hs (fun g hl hg => hk g hl (by omega)) (hc _) (hc _),
    (hc _).trans h.most, (hc _).trans h.off, (hc _).trans h.fused, (hc _).trans h.left, fun o => (World.frozen?_of_block (hk D hD (by omega)).2).trans (h.fz o)⟩

/-- A disk D, and the law's own blocks A -/
def NowV (w0 : World) (A : List Nat) (D : Nat) (d : Dk) (w : World) : Prop := ∃ ρ, DiskAt w ρ w0.heap.size D d ∧ (∀ g, g < w0.heap.size → ρ g = 0) ∧ (∀ a, a ∈ A → a < w.heap.size ∧ w0.heap.size ≤ a ∧ ρ a = 4) ∧ Below w0.heap.size w0 w
def NowT (w0 : World) (A : List Nat) (D : Nat) (d : Dk) (w w' : World) : Prop := NowV w0 A D d w' ∧ w.heap.size ≤ w'.heap.size ∧ ∀ a, a ∈ A → w'.heap[a]? = w.heap[a]?
theorem Now.v {w0 w : World} {D : Nat} {d : Dk} (h : Now w0 D d w) : NowV w0 [] D d w := by
  obtain ⟨ρ, h1, h2, h3⟩ := h
  exact ⟨ρ, h1, h2, fun a ha => by simp at ha, h3⟩
theorem NowV.keep {w0 w W : World} {A : List Nat} {D : Nat} {d : Dk} (h : NowV w0 A D d w) (hb : Below w.heap.size w W) : NowV w0 A D d W := by
  obtain ⟨ρ, h1, h2, h4, h3⟩ := h
  have := hb.size
  exact ⟨ρ, h1.keep hb, h2, fun a ha => ⟨by have := (h4 a ha).1; omega, (h4 a ha).2⟩, bel_call h3 hb⟩
theorem NowV.below {w0 w : World} {A : List Nat} {D : Nat} {d : Dk} (h : NowV w0 A D d w) : Below w0.heap.size w0 w := by obtain ⟨_, _, _, _, h⟩ := h; exact h
/-- a new variable of the law's -/
theorem NowV.alloc {w0 w : World} {A : List Nat} {D : Nat} {d : Dk} (h : NowV w0 A D d w) (o : Obj) : NowV w0 (w.heap.size :: A) D d (w.alloc o) := by
  obtain ⟨ρ, h1, h2, h4, h3⟩ := h
  have hs : (w.alloc o).heap.size = w.heap.size + 1 := by simp
  have h30 := h3.size
  refine ⟨fun k => if k = w.heap.size then 4 else ρ k, h1.other (by omega) (fun g hg _ => ⟨by rw [if_neg (by omega)], Below.heap_alloc _ _ _ hg⟩) (fun k hk => by rw [if_neg (by omega)]; exact h1.fresh k (by omega)), fun g hg => (if_neg (by omega)).trans (h2 g hg), fun a ha => ?_, bel_alloc h3 o⟩
  rcases List.mem_cons.1 ha with rfl | ha
  · exact ⟨by omega, h30, if_pos rfl⟩
  · have := h4 a ha
    exact ⟨by omega, this.2.1, (if_neg (by omega)).trans this.2.2⟩
/-- a variable of the law's is written -/
theorem NowV.set {w0 w : World} {A : List Nat} {D a : Nat} {d : Dk} (h : NowV w0 A D d w) (ha : a ∈ A) (o : Nat) (v : Value) : NowV w0 A D d (w.setCell ⟨a, o, none⟩ v) := by
  obtain ⟨ρ, h1, h2, h4, h3⟩ := h
  have ha4 := h4 a ha
  refine ⟨ρ, h1.other (by rw [set_size]; exact Nat.le_refl _) (fun g hg hr => ⟨rfl, set_heap fun e => by subst e; omega⟩) (fun k hk => h1.fresh k (by rwa [set_size] at hk)), h2, fun b hb => ?_, below_set h3 ha4.2.1 v⟩
  rw [set_size]; exact h4 b hb
theorem NowV.drop {w0 w : World} {a : Nat} {A : List Nat} {D : Nat} {d : Dk} (h : NowV w0 (a :: A) D d w) : NowV w0 A D d w := by
  obtain ⟨ρ, h1, h2, h4, h3⟩ := h
  exact ⟨ρ, h1, h2, fun b hb => h4 b (List.mem_cons_of_mem _ hb), h3⟩
theorem nowv_left {w0 w w' : World} {A : List Nat} {D : Nat} {d' : Dk} {ρ : Nat → Nat} (h2 : ∀ g, g < w0.heap.size → ρ g = 0) (h4 : ∀ a, a ∈ A → a < w.heap.size ∧ w0.heap.size ≤ a ∧ ρ a = 4) (h3 : Below w0.heap.size w0 w) (hl : Left ρ w0.heap.size D w d' w') : NowT w0 A D d' w w' := by
  obtain ⟨ρ', k1, k2⟩ := hl
  have hs := h3.size
  have hs2 := k2.size
  exact ⟨⟨ρ', k1, fun g hg => (k2.role g (by omega)).trans (h2 g hg), fun a ha => ⟨by have := (h4 a ha).1; omega, (h4 a ha).2.1, (k2.role a (h4 a ha).1).trans (h4 a ha).2.2⟩, h3.trans (k2.below fun g hg => ⟨by omega, .inl (h2 g hg)⟩)⟩, hs2, fun a ha => k2.block a (h4 a ha).1 (.inr (by rw [(h4 a ha).2.2]; omega))⟩
theorem nowv_below {w0 w w' : World} {A : List Nat} {D : Nat} {d : Dk} (h : NowV w0 A D d w) (hb : Below w.heap.size w w') : NowT w0 A D d w w' := by
  have hk := h.keep hb
  obtain ⟨ρ, h1, h2, h4, h3⟩ := h
  exact ⟨hk, hb.size, fun a ha => hb.block a (h4 a ha).1⟩
theorem nowv_write {w0 w W : World} {A : List Nat} {D : Nat} {d d' : Dk} {r : Int} (h : NowV w0 A D d w) (hb : Below w.heap.size w W) (ok : DOk d) (f : Int) (v : Value) (b : List Int) (hv : RdM w0.heap.size w.heap.size W v b) (hbl : b.length ≤ 1000000000) (hr : d.write f b = (r, d')) :
    Calls Tryz.prog 41 #[.pointer (some ⟨D, 0, none⟩), .int .i64 f, v] W fun e w' => e = .returned (.int .i64 r) ∧ NowT w0 A D d' W w' := by
  obtain ⟨ρ, h1, h2, h4, h3⟩ := h
  have := write_any (h1.keep hb) ok f v b (hv.rds h2 h1.fresh) hbl
  rw [hr] at this
  exact this.mono fun e w' ⟨he, hl⟩ => ⟨he, nowv_left h2 (fun a ha => ⟨by have := (h4 a ha).1; have := hb.size; omega, (h4 a ha).2⟩) (bel_call h3 hb) hl⟩
theorem nowv_cut {w0 w : World} {A : List Nat} {D : Nat} {d d' : Dk} {r : Int} (h : NowV w0 A D d w) (ok : DOk d) (f n : Int) (hr : d.cut f n = (r, d')) :
    Calls Tryz.prog 52 #[.pointer (some ⟨D, 0, none⟩), .int .i64 f, .int .i64 n] w fun e w' => e = .returned (.int .i64 r) ∧ NowT w0 A D d' w w' := by
  obtain ⟨ρ, h1, h2, h4, h3⟩ := h
  have := cut_any h1 ok f n
  rw [hr] at this
  exact this.mono fun e w' ⟨he, hl⟩ => ⟨he, nowv_left h2 h4 h3 hl⟩
theorem nowv_sync {w0 w : World} {A : List Nat} {D : Nat} {d d' : Dk} {r : Int} (h : NowV w0 A D d w) (ok : DOk d) (f : Int) (hr : d.sync f = (r, d')) :
    Calls Tryz.prog 35 #[.pointer (some ⟨D, 0, none⟩), .int .i64 f] w fun e w' => e = .returned (.int .i64 r) ∧ NowT w0 A D d' w w' := by
  obtain ⟨ρ, h1, h2, h4, h3⟩ := h
  have := sync_any h1 ok f
  rw [hr] at this
  exact this.mono fun e w' ⟨he, hl⟩ => ⟨he, nowv_left h2 h4 h3 hl⟩
theorem nowv_fuse {w0 w : World} {A : List Nat} {D : Nat} {d d' : Dk} {r : Int} (h : NowV w0 A D d w) (n : Int) (hr : d.fuse n = (r, d')) :
    Calls Tryz.prog 21 #[.pointer (some ⟨D, 0, none⟩), .int .i64 n] w fun e w' => e = .returned (.int .i64 r) ∧ NowT w0 A D d' w w' := by
  obtain ⟨ρ, h1, h2, h4, h3⟩ := h
  have := fuse_any h1 n
  rw [hr] at this
  exact this.mono fun e w' ⟨he, hl⟩ => ⟨he, nowv_left h2 h4 h3 hl⟩
theorem nowv_off {w0 w : World} {A : List Nat} {D : Nat} {d d' : Dk} {r : Int} (h : NowV w0 A D d w) (hr : d.offc = (r, d')) :
    Calls Tryz.prog 17 #[.pointer (some ⟨D, 0, none⟩)] w fun e w' => e = .returned (.int .i64 r) ∧ NowT w0 A D d' w w' := by
  obtain ⟨ρ, h1, h2, h4, h3⟩ := h
  have := off_any h1
  rw [hr] at this
  exact this.mono fun e w' ⟨he, hl⟩ => ⟨he, nowv_left h2 h4 h3 hl⟩
theorem nowv_on {w0 w W : World} {A : List Nat} {D : Nat} {d d' : Dk} {r : Int} (h : NowV w0 A D d w) (hb : Below w.heap.size w W) (ok : DOk d) (p : Option Addr) (len cap : Nat) (pk : Nat → Int) (hp : PkM w0.heap.size w.heap.size W p len pk) (hr : d.onc pk = (r, d')) :
    Calls Tryz.prog 18 #[.pointer (some ⟨D, 0, none⟩), .slice p len cap] W fun e w' => e = .returned (.int .i64 r) ∧ NowT w0 A D d' W w' := by
  obtain ⟨ρ, h1, h2, h4, h3⟩ := h
  have := on_any (h1.keep hb) ok p len cap pk ⟨fun i hi hl => by
    obtain ⟨g, o, e1, e2, e3⟩ := hp.1 i hi hl
    exact ⟨g, o, e1, e2, by rcases e3 with e | e; exact h2 g e; exact h1.fresh g e⟩, hp.2⟩
  rw [hr] at this
  exact this.mono fun e w' ⟨he, hl⟩ => ⟨he, nowv_left h2 (fun a ha => ⟨by have := (h4 a ha).1; have := hb.size; omega, (h4 a ha).2⟩) (bel_call h3 hb) hl⟩
theorem nowv_room {w0 w : World} {A : List Nat} {D : Nat} {d : Dk} {r : Int} (h : NowV w0 A D d w) (ok : DOk d) (hr : roomF d = r) :
    Calls Tryz.prog 16 #[.pointer (some ⟨D, 0, none⟩)] w fun e w' => e = .returned (.int .i64 r) ∧ NowT w0 A D d w w' := by
  obtain ⟨ρ, h1, h2, h4, h3⟩ := h
  subst hr
  exact (room_at h1 ok.1 ok.2.1 ok.2.2.1 ok.2.2.2).mono fun e w' ⟨he, hb⟩ => ⟨he, nowv_below ⟨ρ, h1, h2, h4, h3⟩ hb⟩
/-- Read, where it may be -/
theorem nowv_read {w0 w : World} {A : List Nat} {D : Nat} {d : Dk} (h : NowV w0 A D d w) (ok : DOk d) (hoff : d.off = false) (f : Nat) (hf : f < 2) :
    Calls Tryz.prog 24 #[.pointer (some ⟨D, 0, none⟩), .int .i64 f] w fun e w' => ∃ v, e = .returned (.tuple #[v, .int .i64 0]) ∧ RowO w' w.heap.size v (d.file f).stands ∧ Below w.heap.size w w' ∧ NowT w0 A D d w w' := by
  obtain ⟨ρ, h1, h2, h4, h3⟩ := h
  exact (read_at h1 f (d.file f) (h1.file f hf) hf (ok.file f) hoff).mono fun e w' ⟨v, he, hr, hb⟩ => ⟨v, he, hr, hb, nowv_below ⟨ρ, h1, h2, h4, h3⟩ hb⟩
/-- Read, where it may not be -/
theorem nowv_read_no {w0 w : World} {A : List Nat} {D : Nat} {d : Dk} (h : NowV w0 A D d w) (f : Int) (hm : mayv d.off f ≠ 0) :
    Calls Tryz.prog 24 #[.pointer (some ⟨D, 0, none⟩), .int .i64 f] w fun e w' => e = .returned (.tuple #[.slice none 0 0, .int .i64 (mayv d.off f)]) ∧ NowT w0 A D d w w' := by
  obtain ⟨ρ, h1, h2, h4, h3⟩ := h
  exact (read_no h1 f hm).mono fun e w' ⟨he, hw⟩ => ⟨he, by rw [hw]; exact nowv_below ⟨ρ, h1, h2, h4, h3⟩ (Below.refl _ _)⟩
end Go.Proofs.YtfohemgfiidokaaGreatDoor
