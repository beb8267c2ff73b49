/- The methods of a disk in memory, whichever way they go. -/
import Derived.Test.YtfohemgfiidokaaDr
import Derived.Test.YtfohemgfiidokaaDn
import Derived.Test.YtfohemgfiidokaaDo
namespace Go.Proofs.Ytfohemgfiidokaa
open Go.RowKit Go.Sort

/-- a slice of bytes that lies in a block that nobody writes -/
def RdS (w : World) (ρ : Nat → Nat) (v : Value) (xs : List Int) : Prop :=
  (v = .slice none 0 0 ∧ xs = []) ∨ ∃ a g o cap, v = .slice (some a) xs.length cap ∧ xs.length ≤ cap ∧ (0 < xs.length → a = ⟨g, o, none⟩ ∧ ρ g = 0) ∧ ∀ j, j < xs.length → w.cell? ⟨g, o + j, none⟩ = some (.int .u8 (xs[j]?.getD 0))
theorem RdS.rdb {w : World} {ρ : Nat → Nat} {v : Value} {xs : List Int} (h : RdS w ρ v xs) : RdB w v xs := by
  rcases h with h | ⟨a, g, o, cap, h1, h2, h3, h4⟩
  · exact .inl h
  · exact .inr ⟨a, g, o, cap, h1, h2, fun hl => (h3 hl).1, h4⟩
theorem RdS.mv {w w' : World} {ρ ρ' : Nat → Nat} {v : Value} {xs : List Int} (h : RdS w ρ v xs) (m : Mv ρ ρ' w w') : RdS w' ρ' v xs := by
  rcases h with h | ⟨a, g, o, cap, h1, h2, h3, h4⟩
  · exact .inl h
  · refine .inr ⟨a, g, o, cap, h1, h2, fun hl => ⟨(h3 hl).1, ?_⟩, fun j hj => ?_⟩
    · rw [m.role g (block_lt_of_cell (h4 0 hl))]; exact (h3 hl).2
    · have hc := h4 j hj
      rw [World.cell?_of_block (m.block g (block_lt_of_cell hc) (.inl (h3 (by omega)).2))]; exact hc
theorem RdS.shape {w : World} {ρ : Nat → Nat} {v : Value} {xs : List Int} (h : RdS w ρ v xs) : ∃ p cap, v = .slice p xs.length cap := by
  rcases h with ⟨h1, h2⟩ | ⟨a, g, o, cap, h1, -⟩
  · exact ⟨none, 0, by rw [h1, h2]; rfl⟩
  · exact ⟨_, _, h1⟩
theorem RowO.rds {w : World} {B : Nat} {v : Value} {xs : List Int} {ρ : Nat → Nat} (h : RowO w B v xs) (hf : ∀ k, B ≤ k → ρ k = 0) : RdS w ρ v xs := by
  rcases h.rdr hf with h | ⟨g, cap, h1, h2, h3, h4, h5⟩
  · exact .inl h
  · exact .inr ⟨⟨g, 0, none⟩, g, 0, cap, h1, h2, fun _ => ⟨rfl, h3⟩, fun j hj => by rw [Nat.zero_add]; exact h5 j hj⟩

def Dk.put (d : Dk) (f : Nat) (c : Chg) : Dk := d.setFile f ⟨(d.file f).s, (d.file f).l ++ [c]⟩
def Dk.goes (d : Dk) (g : Dk → Dk) : Int × Dk := if d.fused = true ∧ d.left = 0 then (8, { d with off := true }) else (0, g d.tick)
def Dk.write (d : Dk) (f : Int) (b : List Int) : Int × Dk :=
  if mayv d.off f ≠ 0 then (mayv d.off f, d) else if roomF d < b.length then (7, d) else d.goes fun d => d.put f.toNat (.wr b)
def Dk.cut (d : Dk) (f n : Int) : Int × Dk :=
  if mayv d.off f ≠ 0 then (mayv d.off f, d) else if n < 0 ∨ (d.file f.toNat).stands.length < n then (1, d) else d.goes fun d => d.put f.toNat (.ct n)
def Dk.sync (d : Dk) (f : Int) : Int × Dk :=
  if mayv d.off f ≠ 0 then (mayv d.off f, d) else d.goes fun d => d.setFile f.toNat ⟨(d.file f.toNat).stands, []⟩
def Dk.fuse (d : Dk) (n : Int) : Int × Dk := if d.off = true then (8, d) else (0, { d with fused := decide (0 ≤ n), left := n })
def Dk.offc (d : Dk) : Int × Dk := if d.off = true then (8, d) else (0, { d with off := true })
def Dk.onc (d : Dk) (pk : Nat → Int) : Int × Dk := if d.off = true then (0, { d.on pk 2 with off := false, fused := false }) else (3, d)
def DOk (d : Dk) : Prop := Small d.f0 ∧ Small d.f1 ∧ 0 ≤ d.most ∧ d.most ≤ 4194304
theorem DOk.file {d : Dk} (h : DOk d) (f : Nat) : Small (d.file f) := by rcases f with _ | f; exact h.1; exact h.2.1
/-- what a call of a disk leaves -/
def Left (ρ : Nat → Nat) (B D : Nat) (w : World) (d : Dk) (w' : World) : Prop := ∃ ρ', DiskAt w' ρ' B D d ∧ Mv ρ ρ' w w'
theorem Left.below {w w' : World} {ρ : Nat → Nat} {B D : Nat} {d : Dk} (h : DiskAt w ρ B D d) (hb : Below w.heap.size w w') : Left ρ B D w d w' := ⟨ρ, h.keep hb, Mv.ofBelow ρ hb⟩

theorem may_zero {off : Bool} {f : Int} (h : mayv off f = 0) : off = false ∧ ∃ k : Nat, k < 2 ∧ f = k := by
  unfold mayv at h
  split at h
  · cases h
  · split at h
    · cases h
    · rename_i h1 h2
      exact ⟨by simpa using h1, f.toNat, by omega, by omega⟩

theorem burns_false {d : Dk} (h : ¬ (d.fused = true ∧ d.left = 0)) : (d.fused && d.left == 0) = false := by
  cases hf : d.fused
  · rfl
  · simp; exact fun e => h ⟨hf, e⟩

theorem goes_at {w W : World} {ρ : Nat → Nat} {B D : Nat} {d : Dk} {G : Dk → Dk} (h : DiskAt w ρ B D d) (hb : Below w.heap.size w W) (n : Nat) (cs : Array Value)
    (burns : d.fused = true → d.left = 0 → Calls Try.prog 34 #[.pointer (some ⟨D, 0, none⟩), .func (.func n) #[] cs] W fun e w' => e = .returned (.int .i64 8) ∧ w' = W.setCell ⟨D, 5, none⟩ (.bool true))
    (goes : ∀ K : World → Prop, (d.fused && d.left == 0) = false → Calls Try.prog n cs (W.setCell ⟨D, 7, none⟩ (.int .i64 (IntKind.i64.wrap (d.left - 1)))) (fun e w' => e = .returned undef ∧ K w') → Calls Try.prog 34 #[.pointer (some ⟨D, 0, none⟩), .func (.func n) #[] cs] W fun e w' => e = .returned (.int .i64 0) ∧ K w')
    (cl : DiskAt (W.setCell ⟨D, 7, none⟩ (.int .i64 (IntKind.i64.wrap (d.left - 1)))) ρ B D d.tick → Calls Try.prog n cs (W.setCell ⟨D, 7, none⟩ (.int .i64 (IntKind.i64.wrap (d.left - 1)))) fun e w' => e = .returned undef ∧ Left ρ B D (W.setCell ⟨D, 7, none⟩ (.int .i64 (IntKind.i64.wrap (d.left - 1)))) (G d.tick) w') :
    Calls Try.prog 34 #[.pointer (some ⟨D, 0, none⟩), .func (.func n) #[] cs] W fun e w' => e = .returned (.int .i64 (d.goes G).1) ∧ Left ρ B D w (d.goes G).2 w' := by
  have hd := h.keep hb
  unfold Dk.goes
  by_cases hbu : d.fused = true ∧ d.left = 0
  · rw [if_pos hbu]
    exact (burns hbu.1 hbu.2).mono fun e w' ⟨he, hw⟩ => ⟨he, by rw [hw]; exact ⟨ρ, hd.setOff true, (Mv.ofBelow ρ hb).set h.role 5 _⟩⟩
  · rw [if_neg hbu]
    have hd2 := hd.setLeft (IntKind.i64.wrap (d.left - 1))
    refine (goes _ (burns_false hbu) (cl hd2)).mono fun e w' ⟨he, ρ', h1, h2⟩ => ⟨he, ρ', h1, ((Mv.ofBelow ρ hb).set h.role 7 _).trans h2⟩

theorem tick_file (d : Dk) (f : Nat) : d.tick.file f = d.file f := by rcases f with _ | f <;> rfl

theorem write_any {w : World} {ρ : Nat → Nat} {B D : Nat} {d : Dk} (h : DiskAt w ρ B D d) (ok : DOk d) (f : Int) (v : Value) (b : List Int) (hv : RdS w ρ v b) (hbl : b.length ≤ 1000000000) :
    Calls Try.prog 16 #[.pointer (some ⟨D, 0, none⟩), .int .i64 f, v] w fun e w' => e = .returned (.int .i64 (d.write f b).1) ∧ Left ρ B D w (d.write f b).2 w' := by
  obtain ⟨p, cap, rfl⟩ := hv.shape
  unfold Dk.write
  by_cases hm : mayv d.off f = 0
  · rw [if_neg (by simp [hm])]
    obtain ⟨hoff, k, hk, rfl⟩ := may_zero hm
    by_cases hr : roomF d < b.length
    · rw [if_pos hr]
      exact (write_full h k hk p b.length cap ok.1 ok.2.1 ok.2.2.1 ok.2.2.2 hr hoff).mono fun e w' ⟨he, hb⟩ => ⟨he, Left.below h hb⟩
    · rw [if_neg hr]
      refine write_w h k hk p b.length cap ok.1 ok.2.1 ok.2.2.1 ok.2.2.2 (by omega) hoff _ _ fun W hbW cd cf cn => ?_
      have hlt := h.lt
      have hd := h.keep hbW
      refine goes_at h hbW 37 _ (fun h1 h2 => goes_burns_37 hd _ _ _ h1 h2) (fun K h1 h2 => goes_37 hd _ _ _ K _ rfl h1 h2) (fun hd2 => ?_)
      have m7 : Mv ρ ρ w (W.setCell ⟨D, 7, none⟩ (.int .i64 (IntKind.i64.wrap (d.left - 1)))) := (Mv.ofBelow ρ hbW).set h.role 7 _
      have := write1_c w.heap.size (w.heap.size + 1) (w.heap.size + 1 + 1) (.slice p b.length cap) b hd2 hk (by rw [tick_file]; exact (ok.file k).2) (hv.mv m7).rdb hbl
        ((World.cell?_of_block (set_heap (show w.heap.size ≠ D by omega))).trans cd) ((World.cell?_of_block (set_heap (show w.heap.size + 1 ≠ D by omega))).trans cf) ((World.cell?_of_block (set_heap (show w.heap.size + 1 + 1 ≠ D by omega))).trans cn)
        (h.fresh _ (by omega)) (h.fresh _ (by omega)) (h.fresh _ (by omega))
      exact this
  · rw [if_pos (by simp [hm])]
    exact (write_no h f p b.length cap hm).mono fun e w' ⟨he, hb⟩ => ⟨he, Left.below h hb⟩

theorem cut_any {w : World} {ρ : Nat → Nat} {B D : Nat} {d : Dk} (h : DiskAt w ρ B D d) (ok : DOk d) (f n : Int) :
    Calls Try.prog 23 #[.pointer (some ⟨D, 0, none⟩), .int .i64 f, .int .i64 n] w fun e w' => e = .returned (.int .i64 (d.cut f n).1) ∧ Left ρ B D w (d.cut f n).2 w' := by
  unfold Dk.cut
  by_cases hm : mayv d.off f = 0
  · rw [if_neg (by simp [hm])]
    obtain ⟨hoff, k, hk, rfl⟩ := may_zero hm
    by_cases hn : n < 0
    · rw [if_pos (.inl hn)]
      exact (cut_neg h k hk n hn hoff).mono fun e w' ⟨he, hb⟩ => ⟨he, Left.below h hb⟩
    by_cases hr : (d.file k).stands.length < n
    · rw [if_pos (.inr hr)]
      exact (cut_arg h k hk n (ok.file k) (by omega) hr hoff).mono fun e w' ⟨he, hb⟩ => ⟨he, Left.below h hb⟩
    · rw [if_neg (by intro e; rcases e with e | e; exact hn e; exact hr e)]
      refine cut_w h k hk n (by omega) (ok.file k) (by omega) hoff _ _ fun W hbW cd cf cn => ?_
      have hlt := h.lt
      have hd := h.keep hbW
      refine goes_at h hbW 39 _ (fun h1 h2 => goes_burns_39 hd _ _ _ h1 h2) (fun K h1 h2 => goes_39 hd _ _ _ K _ rfl h1 h2) (fun hd2 => ?_)
      have := cut1_c w.heap.size (w.heap.size + 1) (w.heap.size + 1 + 1) n hd2 hk (by omega) (by rw [tick_file]; exact (ok.file k).2)
        ((World.cell?_of_block (set_heap (show w.heap.size ≠ D by omega))).trans cd) ((World.cell?_of_block (set_heap (show w.heap.size + 1 ≠ D by omega))).trans cf) ((World.cell?_of_block (set_heap (show w.heap.size + 1 + 1 ≠ D by omega))).trans cn)
        (h.fresh _ (by omega)) (h.fresh _ (by omega)) (h.fresh _ (by omega))
      exact this
  · rw [if_pos (by simp [hm])]
    exact (cut_no h f n hm).mono fun e w' ⟨he, hb⟩ => ⟨he, Left.below h hb⟩

theorem sync_any {w : World} {ρ : Nat → Nat} {B D : Nat} {d : Dk} (h : DiskAt w ρ B D d) (ok : DOk d) (f : Int) :
    Calls Try.prog 15 #[.pointer (some ⟨D, 0, none⟩), .int .i64 f] w fun e w' => e = .returned (.int .i64 (d.sync f).1) ∧ Left ρ B D w (d.sync f).2 w' := by
  unfold Dk.sync
  by_cases hm : mayv d.off f = 0
  · rw [if_neg (by simp [hm])]
    obtain ⟨hoff, k, hk, rfl⟩ := may_zero hm
    unfold Dk.goes
    by_cases hbu : d.fused = true ∧ d.left = 0
    · rw [if_pos hbu]
      exact (sync_burn h k hk hoff hbu.1 hbu.2).mono fun e w' ⟨he, h1, h2⟩ => ⟨he, ρ, h1, h2⟩
    · rw [if_neg hbu]
      have := sync_at h k hk (ok.file k) hoff (burns_false hbu)
      exact this.mono fun e w' ⟨he, h1, h2⟩ => ⟨he, ρ, by simp only [tick_file, Int.toNat_natCast]; exact h1, h2⟩
  · rw [if_pos (by simp [hm])]
    exact (sync_no h f hm).mono fun e w' ⟨he, hb⟩ => ⟨he, Left.below h hb⟩

theorem fuse_any {w : World} {ρ : Nat → Nat} {B D : Nat} {d : Dk} (h : DiskAt w ρ B D d) (n : Int) :
    Calls Try.prog 22 #[.pointer (some ⟨D, 0, none⟩), .int .i64 n] w fun e w' => e = .returned (.int .i64 (d.fuse n).1) ∧ Left ρ B D w (d.fuse n).2 w' := by
  unfold Dk.fuse
  cases hoff : d.off
  · exact (fuse_at h n hoff).mono fun e w' ⟨he, hw⟩ => ⟨he, by rw [hw]; exact ⟨ρ, by simpa [hoff] using (h.setFused (decide (0 ≤ n))).setLeft n, ((Mv.refl ρ w).set h.role 6 _).set h.role 7 _⟩⟩
  · exact (fuse_no h n hoff).mono fun e w' ⟨he, hw⟩ => ⟨he, by rw [hw]; exact ⟨ρ, h, Mv.refl ρ w⟩⟩
theorem off_any {w : World} {ρ : Nat → Nat} {B D : Nat} {d : Dk} (h : DiskAt w ρ B D d) :
    Calls Try.prog 17 #[.pointer (some ⟨D, 0, none⟩)] w fun e w' => e = .returned (.int .i64 d.offc.1) ∧ Left ρ B D w d.offc.2 w' := by
  unfold Dk.offc
  cases hoff : d.off
  · exact (off_at h hoff).mono fun e w' ⟨he, hw⟩ => ⟨he, by rw [hw]; exact ⟨ρ, h.setOff true, (Mv.refl ρ w).set h.role 5 _⟩⟩
  · exact (off_no h hoff).mono fun e w' ⟨he, hw⟩ => ⟨he, by rw [hw]; exact ⟨ρ, h, Mv.refl ρ w⟩⟩
/-- picks of an On -/
def PicksAt (w : World) (ρ : Nat → Nat) (p : Option Addr) (len : Nat) (pk : Nat → Int) : Prop :=
  (∀ i, i < 2 → i < len → ∃ g o, p = some ⟨g, o, none⟩ ∧ w.cell? ⟨g, o + i, none⟩ = some (.int .i64 (pk i)) ∧ ρ g = 0) ∧ (∀ i, i < 2 → len ≤ i → pk i = 0) ∧
    (∀ i, i < 2 → -9223372036854775808 ≤ pk i) ∧ (∀ i, i < 2 → pk i ≤ 9223372036854775807)
theorem on_any {w : World} {ρ : Nat → Nat} {B D : Nat} {d : Dk} (h : DiskAt w ρ B D d) (ok : DOk d) (p : Option Addr) (len cap : Nat) (pk : Nat → Int) (hp : PicksAt w ρ p len pk) :
    Calls Try.prog 18 #[.pointer (some ⟨D, 0, none⟩), .slice p len cap] w fun e w' => e = .returned (.int .i64 (d.onc pk).1) ∧ Left ρ B D w (d.onc pk).2 w' := by
  unfold Dk.onc
  cases hoff : d.off
  · exact (on_no h _ hoff).mono fun e w' ⟨he, hw⟩ => ⟨he, by rw [hw]; exact ⟨ρ, h, Mv.refl ρ w⟩⟩
  · exact (on_at p len cap pk h ok.1 ok.2.1 hoff hp.1 hp.2.1 hp.2.2.1 hp.2.2.2).mono fun e w' ⟨he, h1, h2⟩ => ⟨he, ρ, h1, h2⟩
end Go.Proofs.Ytfohemgfiidokaa
