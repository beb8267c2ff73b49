/- DiskEnds: a new disk beside variables that stand already; the plain law. -/
import Derived.Test.YtfohemgfiidokaaEt
import Derived.Test.YtfohemgfiidokaaFp
namespace Go.Proofs.Ytfohemgfiidokaa
open Go.RowKit Go.Sort diskKeeps

def dk0 (most : Int) : Dk := ⟨⟨[], []⟩, ⟨[], []⟩, most, false, false, 0⟩
theorem new_any (most : Int) (w : World) (h0 : 1 ≤ most) (h1 : most ≤ 4194304) :
    Calls Try.prog 10 #[.int .i64 most] w fun e w' => e = .returned (.tuple #[.pointer (some ⟨w.heap.size, 0, none⟩), .int .i64 0]) ∧ (∀ (ρ : Nat → Nat) (B : Nat), B ≤ w.heap.size → ρ w.heap.size = 1 → (∀ k, w.heap.size < k → ρ k = 0) → DiskAt w' ρ B w.heap.size (dk0 most)) ∧ Below w.heap.size w w' := by
  go_enter Try.func10, Try.ntmps10
  go_wp2
  go_ret2
  refine ⟨rfl, fun ρ B hB hρ hf => ?_, bel_alloc (Below.refl _ _) _⟩
  have hc : ∀ o u, (#[Value.slice none 0 0, .slice none 0 0, .slice none 0 0, .slice none 0 0, .int .i64 most, .bool false, .bool false, .int .i64 0] : Array Value)[o]? = some u → (w.alloc (.cells #[.slice none 0 0, .slice none 0 0, .slice none 0 0, .slice none 0 0, .int .i64 most, .bool false, .bool false, .int .i64 0] 60)).cell? ⟨w.heap.size, o, none⟩ = some u := fun o u hu => by
    rw [cell_of_row _ _ o _ _ _ (heap_alloc_new _ _)]; exact hu
  have hlo : ∀ r, LoR (w.alloc (.cells #[.slice none 0 0, .slice none 0 0, .slice none 0 0, .slice none 0 0, .int .i64 most, .bool false, .bool false, .int .i64 0] 60)) ρ B r (.slice none 0 0) [] := fun r => ⟨[], World.ownsRow_nil _ _ _ _, fun g hg => by simp [Value.ownBlock] at hg, fun j hj => by simp at hj⟩
  refine ⟨hB, hρ, fun k hk => hf k (by simp at hk; omega), ⟨.slice none 0 0, .slice none 0 0, hc 0 _ rfl, hc 1 _ rfl, .inl ⟨rfl, rfl⟩, hlo _⟩, ⟨.slice none 0 0, .slice none 0 0, hc 2 _ rfl, hc 3 _ rfl, .inl ⟨rfl, rfl⟩, hlo _⟩, hc 4 _ rfl, hc 5 _ rfl, hc 6 _ rfl, hc 7 _ rfl, fun o => frozen_of_row _ _ o _ _ (heap_alloc_new _ _)⟩
theorem nowv_new (most : Int) {w0 w : World} {A : List Nat} (hb : Below w0.heap.size w0 w) (hA : ∀ a, a ∈ A → a < w.heap.size ∧ w0.heap.size ≤ a) (h0 : 1 ≤ most) (h1 : most ≤ 4194304) :
    Calls Try.prog 10 #[.int .i64 most] w fun e w' => e = .returned (.tuple #[.pointer (some ⟨w.heap.size, 0, none⟩), .int .i64 0]) ∧ NowT w0 A w.heap.size (dk0 most) w w' :=
  (new_any most w h0 h1).mono fun e w' ⟨he, hd, hbb⟩ => by
    have hs := hb.size
    have hs2 := hbb.size
    refine ⟨he, ⟨fun k => if k = w.heap.size then 1 else if k ∈ A then 4 else 0, hd _ _ hs (if_pos rfl) (fun k hk => ?_), fun g hg => ?_, fun a ha => ⟨by have := (hA a ha).1; omega, (hA a ha).2, ?_⟩, bel_call hb hbb⟩, hbb.size, fun a ha => hbb.block a (hA a ha).1⟩
    · show (if k = w.heap.size then 1 else if k ∈ A then 4 else 0) = 0
      rw [if_neg (by omega), if_neg (fun h => by have := (hA k h).1; omega)]
    · show (if g = w.heap.size then 1 else if g ∈ A then 4 else 0) = 0
      rw [if_neg (by omega), if_neg (fun h => by have := (hA g h).2; omega)]
    · show (if a = w.heap.size then 1 else if a ∈ A then 4 else 0) = 4
      rw [if_neg (by have := (hA a ha).1; omega), if_pos ha]

structure EI (d : Dk) (k m : Nat) : Prop where
  off : d.off = false
  fused : d.fused = false
  most : d.most = 4096
  z : ∀ f, (d.file f).s.length + sizes (d.file f).l ≤ m
  l : ∀ f, (d.file f).l.length ≤ k
theorem EI.ok {d : Dk} {k m : Nat} (h : EI d k m) (hk : k ≤ 1000000) (hm : m ≤ 1000000) : DOk d := by
  have z0 := h.z 0; have z1 := h.z 1; have l0 := h.l 0; have l1 := h.l 1; have hmm := h.most
  exact ⟨⟨Nat.le_trans z0 (by omega), Nat.le_trans l0 (by omega)⟩, ⟨Nat.le_trans z1 (by omega), Nat.le_trans l1 (by omega)⟩, by omega, by omega⟩
theorem EI.up {d : Dk} {k m k' m' : Nat} (h : EI d k m) (hk : k ≤ k') (hm : m ≤ m') : EI d k' m' := ⟨h.off, h.fused, h.most, fun f => Nat.le_trans (h.z f) hm, fun f => Nat.le_trans (h.l f) hk⟩
theorem set_file_same (d : Dk) (f : Nat) (F : Fil) : (d.setFile f F).file f = F := by rcases f with _ | f <;> rfl
theorem set_file (d : Dk) (f j : Nat) (F : Fil) : (d.setFile f F).file j = F ∨ (d.setFile f F).file j = d.file j := by
  rcases f with _ | f <;> rcases j with _ | j
  · exact .inl rfl
  · exact .inr rfl
  · exact .inr rfl
  · exact .inl rfl
theorem set_flags (d : Dk) (f : Nat) (F : Fil) : (d.setFile f F).off = d.off ∧ (d.setFile f F).fused = d.fused ∧ (d.setFile f F).most = d.most ∧ (d.setFile f F).left = d.left := by rcases f with _ | f <;> exact ⟨rfl, rfl, rfl, rfl⟩
theorem put_file (d : Dk) (f j : Nat) (c : Chg) : (d.put f c).file j = d.file j ∨ (d.put f c).file j = ⟨(d.file j).s, (d.file j).l ++ [c]⟩ := by
  rcases f with _ | f <;> rcases j with _ | j
  · exact .inr rfl
  · exact .inl rfl
  · exact .inl rfl
  · exact .inr rfl
theorem EI.put {d : Dk} {k m : Nat} (h : EI d k m) (f : Nat) (c : Chg) : EI (d.tick.put f c) (k + 1) (m + c.size) ∧ ∀ j, ((d.tick.put f c).file j).s = (d.file j).s := by
  have fl := set_flags d.tick f ⟨(d.tick.file f).s, (d.tick.file f).l ++ [c]⟩
  refine ⟨⟨fl.1.trans h.off, fl.2.1.trans h.fused, fl.2.2.1.trans h.most, fun j => ?_, fun j => ?_⟩, fun j => ?_⟩
  · have hz := h.z j
    rcases put_file d.tick f j c with e | e
    · rw [e, tick_file]; omega
    · rw [e, tick_file]
      show (d.file j).s.length + sizes ((d.file j).l ++ [c]) ≤ _
      rw [sizes_snoc]; omega
  · have hz := h.l j
    rcases put_file d.tick f j c with e | e
    · rw [e, tick_file]; omega
    · rw [e, tick_file]
      show ((d.file j).l ++ [c]).length ≤ _
      simp; omega
  · rcases put_file d.tick f j c with e | e
    · rw [e, tick_file]
    · rw [e, tick_file]
theorem EI.goes {d : Dk} {k m : Nat} (h : EI d k m) (g : Dk → Dk) : d.goes g = (0, g d.tick) := by
  unfold Dk.goes
  rw [if_neg (by rw [h.fused]; intro e; cases e.1)]
theorem EI.chg {d : Dk} {k m : Nat} (h : EI d k m) (s : StepD) : EI (chg d s) (k + 1) (m + s.B.length) ∧ ∀ j, ((chg d s).file j).s = (d.file j).s := by
  have same : EI d (k + 1) (m + s.B.length) ∧ ∀ j, (d.file j).s = (d.file j).s := ⟨h.up (by omega) (by omega), fun _ => rfl⟩
  unfold Go.Proofs.Ytfohemgfiidokaa.chg
  split
  · unfold Dk.write
    split
    · exact same
    · split
      · exact same
      · rw [h.goes]
        have := h.put s.F.toNat (.wr s.B)
        exact this
  · unfold Dk.cut
    split
    · exact same
    · split
      · exact same
      · rw [h.goes]
        have := h.put s.F.toNat (.ct s.N)
        exact ⟨this.1.up (by omega) (by simp only [Chg.size]; omega), this.2⟩
def blen : List StepD → Nat
  | [] => 0
  | s :: t => s.B.length + blen t
theorem blen_tot : ∀ L : List StepD, blen L ≤ tot L ∧ 16 * L.length ≤ tot L
  | [] => ⟨by simp [blen, tot], by simp [tot]⟩
  | s :: t => by
    have := blen_tot t
    simp only [blen, tot, List.length_cons]
    omega
theorem blen_take : ∀ (L : List StepD) (k : Nat), blen (L.take k) ≤ blen L
  | [], k => by simp
  | s :: t, 0 => by simp [blen]
  | s :: t, k + 1 => by
    have := blen_take t k
    simp only [List.take_succ_cons, blen]
    omega
theorem EI.fold : ∀ (L : List StepD) {d : Dk} {k m : Nat}, EI d k m → EI (L.foldl Go.Proofs.Ytfohemgfiidokaa.chg d) (k + L.length) (m + blen L) ∧ ∀ j, ((L.foldl Go.Proofs.Ytfohemgfiidokaa.chg d).file j).s = (d.file j).s
  | [], d, k, m, h => ⟨by simpa [blen] using h, fun _ => rfl⟩
  | s :: t, d, k, m, h => by
    obtain ⟨h1, h2⟩ := h.chg s
    obtain ⟨h3, h4⟩ := EI.fold t h1
    refine ⟨?_, fun j => (h4 j).trans (h2 j)⟩
    simp only [List.foldl_cons, List.length_cons, blen]
    exact h3.up (by omega) (by omega)
theorem fold_snoc (L : List StepD) (d : Dk) (k : Nat) (h : k < L.length) : (L.take (k + 1)).foldl chg d = chg ((L.take k).foldl chg d) L[k] := by
  rw [List.take_succ_eq_append_getElem h, List.foldl_append]; rfl
theorem EI.sync {d : Dk} {k m : Nat} (h : EI d k m) (f : Nat) (hf : f < 2) : ∃ d', d.sync f = (0, d') ∧ EI d' k m ∧ d'.file f = ⟨(d.file f).stands, []⟩ ∧ ∀ j, j < 2 → j ≠ f → d'.file j = d.file j := by
  have hm : mayv d.off f = 0 := by rw [h.off]; unfold mayv; rw [if_neg (by simp), if_neg (by omega)]
  have hst := stands_len (d.file f)
  have hz := h.z f
  refine ⟨d.tick.setFile f ⟨(d.file f).stands, []⟩, ?_, ?_, set_file_same _ _ _, fun j hj hne => ?_⟩
  · unfold Dk.sync
    rw [if_neg (by rw [hm]; simp), h.goes]
    simp only [tick_file, Int.toNat_natCast]
  · have fl := set_flags d.tick f ⟨(d.file f).stands, []⟩
    refine ⟨fl.1.trans h.off, fl.2.1.trans h.fused, fl.2.2.1.trans h.most, fun j => ?_, fun j => ?_⟩
    · rcases set_file d.tick f j ⟨(d.file f).stands, []⟩ with e | e
      · rw [e]; show (d.file f).stands.length + sizes [] ≤ _; simp only [sizes]; omega
      · rw [e, tick_file]; exact h.z j
    · rcases set_file d.tick f j ⟨(d.file f).stands, []⟩ with e | e
      · rw [e]; simp
      · rw [e, tick_file]; exact h.l j
  · rcases f with _ | _ | f <;> rcases j with _ | _ | j <;> first | rfl | omega
def unitsL : List Chg → Int
  | [] => 0
  | c :: t => c.units + unitsL t
theorem units_nonneg : ∀ l : List Chg, 0 ≤ unitsL l ∧ unitsL l ≤ sizes l + l.length
  | [] => by simp [unitsL, sizes]
  | c :: t => by
    have := units_nonneg t
    cases c with
    | wr b => simp only [unitsL, Chg.units, sizes, Chg.size, List.length_cons]; omega
    | ct n => simp only [unitsL, Chg.units, sizes, Chg.size, List.length_cons]; omega
theorem keptF_big : ∀ (l : List Chg) (b : List Int) (u u' : Int), unitsL l < u → unitsL l < u' → keptF b u l = keptF b u' l
  | [], b, u, u', _, _ => rfl
  | c :: t, b, u, u', h, h' => by
    have hn := units_nonneg t
    have hc : 0 ≤ c.units := by cases c with
      | wr b => simp only [Chg.units]; omega
      | ct n => simp only [Chg.units]; omega
    simp only [unitsL] at h h'
    simp only [keptF]
    rw [if_neg (by omega), if_neg (by omega)]
    have hd : c.done b u = c.done b u' := by
      cases c with
      | wr x => simp only [Chg.units] at h h'; simp only [Chg.done]; rw [List.take_of_length_le (by omega), List.take_of_length_le (by omega)]
      | ct n => rfl
    rw [hd]
    exact keptF_big t _ _ _ (by omega) (by omega)
/-- behind On: all, or none -/
def endD (d : Dk) (pk : Int) : Dk := ⟨⟨keptF d.f0.s pk d.f0.l, []⟩, ⟨keptF d.f1.s pk d.f1.l, []⟩, d.most, false, false, d.left⟩
theorem on_end (d : Dk) (pk : Int) : ({ d with off := true } : Dk).onc (fun i => if i < 2 then pk else 0) = (0, endD d pk) := by
  unfold Dk.onc
  rw [if_pos rfl]
  rfl
theorem end_file (d : Dk) (pk : Int) (f : Nat) : ((endD d pk).file f).stands = keptF (d.file f).s pk (d.file f).l := by rcases f with _ | f <;> rfl
theorem EI.endOk {d : Dk} {k m : Nat} (h : EI d k m) (hm : m ≤ 1000000) (pk : Int) : DOk (endD d pk) := by
  have z0 := h.z 0; have z1 := h.z 1; have hmm := h.most
  have e0 := kept_len d.f0.l d.f0.s pk
  have e1 := kept_len d.f1.l d.f1.s pk
  refine ⟨⟨?_, by simp [endD]⟩, ⟨?_, by simp [endD]⟩, by show 0 ≤ d.most; omega, by show d.most ≤ _; omega⟩
  · show (keptF d.f0.s pk d.f0.l).length + sizes [] ≤ _
    have : d.f0.s.length + sizes d.f0.l ≤ m := z0
    simp only [sizes]; omega
  · show (keptF d.f1.s pk d.f1.l).length + sizes [] ≤ _
    have : d.f1.s.length + sizes d.f1.l ≤ m := z1
    simp only [sizes]; omega
theorem EI.endAll {d : Dk} {k m : Nat} (h : EI d k m) (hk : k ≤ 1000000) (hm : m ≤ 1000000) (f : Nat) : ((endD d 1073741824).file f).stands = (d.file f).stands := by
  rw [end_file]
  have hu := (units_nonneg (d.file f).l).2
  have hz := h.z f
  have hl := h.l f
  exact keptF_big _ _ _ _ (by omega) (by omega)
theorem end_none (d : Dk) (f : Nat) : ((endD d 0).file f).stands = (d.file f).s := by
  rw [end_file]
  cases (d.file f).l with
  | nil => rfl
  | cons c t => simp only [keptF]; rw [if_pos (by omega)]
end Go.Proofs.Ytfohemgfiidokaa
