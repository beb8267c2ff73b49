/- What a vault had when the last call was answered OK, and what it may have: call by call, whatever the power does. -/
import Derived.Test.YtfohemgfiidokaaDoorPf
namespace Go.Proofs.YtfohemgfiidokaaDoor
open Go.RowKit Go.Sort

structure Past where
  all : List (List Int)
  more : List (List Int)
  next : List (List Int)
  other : Bool
def Past.found (p : Past) (l : List (List Int)) : Prop := (p.other = true ∧ l = p.next) ∨ ∃ i, i ≤ p.more.length ∧ l = p.all ++ p.more.take i
def Past.sure (ls : List (List Int)) : Past := ⟨ls, [], [], false⟩
theorem Past.found_iff (p : Past) (l : List (List Int)) : p.found l ↔ (p.other = true ∧ l = p.next) ∨ (p.all.length ≤ l.length ∧ l.length - p.all.length ≤ p.more.length ∧ l.take p.all.length = p.all ∧ l.drop p.all.length = p.more.take (l.length - p.all.length)) := by
  unfold Past.found
  constructor
  · rintro (h | ⟨i, hi, rfl⟩)
    · exact .inl h
    · have hl : (p.all ++ p.more.take i).length - p.all.length = i := by rw [List.length_append, List.length_take]; omega
      refine .inr ⟨by simp, by rw [hl]; exact hi, by simp, by rw [hl]; simp⟩
  · rintro (h | ⟨h1, h2, h3, h4⟩)
    · exact .inl h
    · refine .inr ⟨l.length - p.all.length, h2, ?_⟩
      rw [← h4]
      exact (h3 ▸ List.take_append_drop p.all.length l).symm
theorem Past.found_all (p : Past) : p.found p.all := .inr ⟨0, Nat.zero_le _, by simp⟩
theorem Past.found_len {p : Past} {l : List (List Int)} (h : p.found l) {n : Nat} (h1 : p.all.length + p.more.length ≤ n) (h2 : p.next.length ≤ n) : l.length ≤ n := by
  rcases h with ⟨-, rfl⟩ | ⟨i, hi, rfl⟩
  · exact h2
  · rw [List.length_append, List.length_take]; omega
def vptr : Option (Nat × Va) → Value
  | none => .pointer none
  | some (V, _) => .pointer (some ⟨V, 0, none⟩)
/-- a vault goes on and has what it had; or the power is gone, and whatever is left is what may be found -/
def Run (d : Dk) (o : Option (Nat × Va)) (p : Past) : Prop :=
  (∃ V x, o = some (V, x) ∧ Live d x p.all ∧ p = .sure p.all) ∨ (d.off = true ∧ (∀ V x, o = some (V, x) → x.broken = true ∧ 0 ≤ x.n ∧ x.n ≤ 1000000 ∧ x.file < 2 ∧ 0 ≤ x.gen) ∧ Safe d p.found)
theorem Run.safe {d : Dk} {o : Option (Nat × Va)} {p : Past} (h : Run d o p) : Safe d p.found := by
  rcases h with ⟨V, x, -, h, -⟩ | ⟨-, -, h⟩
  · exact h.safe p.found_all
  · exact h
theorem Live.to {d d' : Dk} {x : Va} {ls : List (List Int)} (h : Live d x ls) (ho : d'.off = d.off) (hf : ∀ f, d'.file f = d.file f) : Live d' x ls :=
  ⟨ho.trans h.off, h.bro, h.file, h.n, h.g, h.par, h.rec_, h.len, by rw [hf]; exact h.sure, by rw [hf]; exact h.oth, by rw [hf]; exact h.emp⟩
theorem fuse_off (d : Dk) (n : Int) : (d.fuse n).2.off = d.off := by unfold Dk.fuse; split <;> rfl
theorem fuse_file (d : Dk) (n : Int) (f : Nat) : (d.fuse n).2.file f = d.file f := by unfold Dk.fuse; split <;> rcases f with _ | f <;> rfl
theorem fuse_most (d : Dk) (n : Int) : (d.fuse n).2.most = d.most := by unfold Dk.fuse; split <;> rfl
theorem Run.fuse {d : Dk} {o : Option (Nat × Va)} {p : Past} (h : Run d o p) (n : Int) : Run (d.fuse n).2 o p := by
  rcases h with ⟨V, x, e, h, hp⟩ | ⟨h1, h2, h3⟩
  · exact .inl ⟨V, x, e, h.to (fuse_off d n) (fuse_file d n), hp⟩
  · have : (d.fuse n).2 = d := by unfold Dk.fuse; rw [if_pos h1]
    rw [this]; exact .inr ⟨h1, h2, h3⟩
theorem DG.fuse {d : Dk} {k m : Nat} (h : DG d k m) (n : Int) : DG (d.fuse n).2 k m := ⟨h.sz.fuse n, h.by_.fuse n⟩
theorem DG.offc {d : Dk} {k m : Nat} (h : DG d k m) : DG d.offc.2 k m := ⟨h.sz.offc, h.by_.offc⟩
theorem DG.onc {d : Dk} {k m : Nat} (h : DG d k m) (pk : Nat → Int) : DG (d.onc pk).2 k m := ⟨h.sz.onc pk, h.by_.onc pk⟩
/-- a disk that is settled: what is left of the one that it was -/
def SettledV (d d2 : Dk) : Prop := d2.off = false ∧ ∃ b0 b1, d2.f0 = ⟨b0, []⟩ ∧ d2.f1 = ⟨b1, []⟩ ∧ Out d.f0 b0 ∧ Out d.f1 b1
theorem offc_off (d : Dk) : d.offc.2.off = true ∧ ∀ f, d.offc.2.file f = d.file f := by
  unfold Dk.offc
  split
  · exact ⟨‹_›, fun _ => rfl⟩
  · exact ⟨rfl, fun f => by rcases f with _ | f <;> rfl⟩
theorem settle (d : Dk) (pk : Nat → Int) : SettledV d (d.offc.2.onc pk).2 ∧ (d.offc.2.onc pk).2.fused = false := by
  obtain ⟨h1, h2⟩ := offc_off d
  have e0 : d.offc.2.f0 = d.f0 := h2 0
  have e1 : d.offc.2.f1 = d.f1 := h2 1
  generalize d.offc.2 = d1 at *
  have : (d1.onc pk).2 = { d1.on pk 2 with off := false, fused := false } := by unfold Dk.onc; rw [if_pos h1]
  rw [this]
  refine ⟨⟨rfl, keptF d1.f0.s (pk 0) d1.f0.l, keptF d1.f1.s (pk 1) d1.f1.l, rfl, rfl, ?_, ?_⟩, rfl⟩
  · rw [← e0]; exact ⟨_, rfl⟩
  · rw [← e1]; exact ⟨_, rfl⟩
theorem SettledV.fuse {d d2 : Dk} (h : SettledV d d2) (n : Int) : SettledV d (d2.fuse n).2 := by
  obtain ⟨h1, b0, b1, h2, h3, h4⟩ := h
  exact ⟨(fuse_off d2 n).trans h1, b0, b1, (fuse_file d2 n 0).trans h2, (fuse_file d2 n 1).trans h3, h4⟩
/-- Open of a settled disk -/
theorem open_past {d d2 : Dk} {o : Option (Nat × Va)} {p : Past} (h : Run d o p) (hs : SettledV d d2) (hby : DBy d2) (h1 : p.all.length + p.more.length ≤ 1000000) (h2 : p.next.length ≤ 1000000) :
    (∃ d' x ls, d2.openV = (0, d', some (x, ls)) ∧ p.found ls ∧ Live d' x ls) ∨ (∃ d', d2.openV = (8, d', none) ∧ d2.fused = true ∧ ∀ o, o = none → Run d' o p) := by
  obtain ⟨hoff, b0, b1, e0, e1, o0, o1⟩ := hs
  obtain ⟨f, g, ls, hb, hF⟩ := h.safe b0 b1 o0 o1
  have hb0 : Bytes b0 := by have := (hby.f 0).1; rw [show d2.file 0 = d2.f0 from rfl, e0] at this; exact this
  have hb1 : Bytes b1 := by have := (hby.f 1).1; rw [show d2.file 1 = d2.f1 from rfl, e1] at this; exact this
  have hl := Past.found_len hF h1 h2
  rcases open_settled hoff e0 e1 hb0 hb1 hb hl with ⟨d', q1, q2, -⟩ | ⟨d', q1, q2, q3, q4⟩
  · exact .inl ⟨d', _, ls, q1, hF, q2⟩
  · exact .inr ⟨d', q1, q3, fun o ho => .inr ⟨q2, fun V x e => (by rw [ho] at e; cases e), q4 _ hF⟩⟩
section
variable {w0 w : World} {A : List Nat} {D : Nat} {d : Dk} {o : Option (Nat × Va)} {R : List (Value × List (List Int))} {p : Past} {k m : Nat}
theorem p_add (h : St w0 A D d o R w) (hr : Run d o p) (g : DG d k m) (hk : k ≤ 900000) (hm : m ≤ 9000000) (ht : KTab w0) (hpl : p.all.length ≤ 500000) (v : Value) (ms : List (List Int)) (hv : RdL w v ms) (hms : RecOk ms) (hsz : sizeI ms ≤ 10000000) (hln : ms.length ≤ 250000) :
    Calls Tryd.prog 12 #[vptr o, v] w fun e w' => ∃ c d' o', e = .returned (.int .i64 c) ∧ StT w0 A D d' o' R w w' ∧ vptr o' = vptr o ∧ DG d' (k + 4) (m + 4 * (44 + sizeI ms)) ∧
      ((c = 0 ∧ Run d' o' ⟨p.all ++ ms, p.more, p.next, p.other⟩) ∨ (c = 8 ∧ Run d' o' ⟨p.all, ms, p.next, p.other⟩) ∨ (c ≠ 0 ∧ c ≠ 8 ∧ Run d' o' p)) := by
  have hgu := g.up (k' := k + 4) (m' := m + 4 * (44 + sizeI ms)) (by omega) (by omega)
  rcases o with _ | ⟨V, x⟩
  · obtain ⟨q, cap, rfl, -⟩ := hv.shape
    exact (add_nil q _ cap w).mono fun e w' ⟨he, hb⟩ => ⟨2, d, none, he, h.t hb, rfl, hgu, .inr (.inr ⟨by decide, by decide, hr⟩)⟩
  · have hd := g.addV x ms (fun r hr => (hms r hr).1)
    rcases hr with ⟨V', x', he, hL, hp⟩ | ⟨hoff, hbr, hs⟩
    · cases he
      have hc := st_add h g hk hm ht v ms hv (fun r hr => (hms r hr).1) hsz hln ⟨by rw [hL.n]; omega, by rw [hL.n]; omega⟩
      refine hc.mono fun e w' ⟨he, hs⟩ => ⟨_, _, _, he, hs, rfl, hd, ?_⟩
      generalize hall : p.all = al at *
      subst hp
      rcases add_live hL g.sz ms hms (by omega) with ⟨h1, h2⟩ | ⟨h1, ⟨d', h2, h3, h4, h5⟩ | ⟨d', h2, h3, h4, h5⟩⟩
      · rw [h2]
        exact .inr (.inr ⟨by dsimp only; decide, by dsimp only; decide, .inl ⟨V, x, rfl, hL, rfl⟩⟩)
      · rw [h2]
        exact .inl ⟨rfl, .inl ⟨V, _, rfl, h3, rfl⟩⟩
      · rw [h2]
        refine .inr (.inl ⟨rfl, .inr ⟨h3, fun V2 x2 e => ?_, h5 _ fun i hi => .inr ⟨i, hi, rfl⟩⟩⟩)
        cases e
        exact ⟨rfl, by show 0 ≤ x.n; rw [hL.n]; omega, by show x.n ≤ 1000000; rw [hL.n]; omega, hL.file, by show 0 ≤ x.gen; have := hL.g; omega⟩
    · obtain ⟨b1, b2, b3, b4, b5⟩ := hbr V x rfl
      have hc := st_add h g hk hm ht v ms hv (fun r hr => (hms r hr).1) hsz hln ⟨b2, b3⟩
      have hv1 : vmayv x.broken ms = 3 := by rw [b1]; rfl
      have he : d.addV x ms = (3, d, x) := by unfold Dk.addV; rw [hv1, if_pos (by decide)]
      rw [he] at hc hd
      exact hc.mono fun e w' ⟨he, hs2⟩ => ⟨3, d, _, he, hs2, rfl, hd, .inr (.inr ⟨by decide, by decide, .inr ⟨hoff, hbr, hs⟩⟩)⟩
theorem p_comp (h : St w0 A D d o R w) (hr : Run d o p) (g : DG d k m) (hk : k ≤ 900000) (hm : m ≤ 9000000) (ht : KTab w0) (v : Value) (ms : List (List Int)) (hv : RdL w v ms) (hms : RecOk ms) (hsz : sizeI ms ≤ 10000000) (hln : ms.length ≤ 250000) :
    Calls Tryd.prog 13 #[vptr o, v] w fun e w' => ∃ c d' o', e = .returned (.int .i64 c) ∧ StT w0 A D d' o' R w w' ∧ vptr o' = vptr o ∧ DG d' (k + 4) (m + 4 * (44 + sizeI ms)) ∧
      ((c = 0 ∧ Run d' o' (.sure ms)) ∨ (c = 8 ∧ Run d' o' ⟨p.all, p.more, ms, true⟩) ∨ (c ≠ 0 ∧ c ≠ 8 ∧ Run d' o' p)) := by
  have hgu := g.up (k' := k + 4) (m' := m + 4 * (44 + sizeI ms)) (by omega) (by omega)
  rcases o with _ | ⟨V, x⟩
  · obtain ⟨q, cap, rfl, -⟩ := hv.shape
    exact (compact_nil q _ cap w).mono fun e w' ⟨he, hb⟩ => ⟨2, d, none, he, h.t hb, rfl, hgu, .inr (.inr ⟨by decide, by decide, hr⟩)⟩
  · have hd := g.compV x ms (fun r hr => (hms r hr).1)
    rcases hr with ⟨V', x', he, hL, hp⟩ | ⟨hoff, hbr, hs⟩
    · cases he
      have hc := st_comp h g hk hm ht hL.file v ms hv (fun r hr => (hms r hr).1) hsz hln (by have := hL.g; omega)
      refine hc.mono fun e w' ⟨he, hs⟩ => ⟨_, _, _, he, hs, rfl, hd, ?_⟩
      generalize hall : p.all = al at *
      subst hp
      rcases comp_live hL g.sz (by omega) (by omega) ms hms (by omega) with ⟨h1, h2⟩ | ⟨-, ⟨h1, h2⟩ | ⟨h1, ⟨d', h2, h3, h4, h5⟩ | ⟨d', h2, h3, h4, h5⟩⟩⟩
      · rw [h2]
        exact .inr (.inr ⟨by dsimp only; decide, by dsimp only; decide, .inl ⟨V, x, rfl, hL, rfl⟩⟩)
      · rw [h2]
        exact .inr (.inr ⟨by dsimp only; decide, by dsimp only; decide, .inl ⟨V, x, rfl, hL, rfl⟩⟩)
      · rw [h2]
        exact .inl ⟨rfl, .inl ⟨V, _, rfl, h3, rfl⟩⟩
      · rw [h2]
        refine .inr (.inl ⟨rfl, .inr ⟨h3, fun V2 x2 e => ?_, h5 _ (.inr ⟨0, Nat.zero_le _, by simp [Past.sure]⟩) (.inl ⟨rfl, rfl⟩)⟩⟩)
        cases e
        exact ⟨rfl, by show 0 ≤ x.n; rw [hL.n]; omega, by show x.n ≤ 1000000; rw [hL.n]; have := hL.len; omega, hL.file, by show 0 ≤ x.gen; have := hL.g; omega⟩
    · obtain ⟨b1, b2, b3, b4, b5⟩ := hbr V x rfl
      have hc := st_comp h g hk hm ht b4 v ms hv (fun r hr => (hms r hr).1) hsz hln b5
      have hv1 : vmayv x.broken ms = 3 := by rw [b1]; rfl
      have he : d.compV x ms = (3, d, x) := by unfold Dk.compV; rw [hv1, if_pos (by decide)]
      rw [he] at hc hd
      exact hc.mono fun e w' ⟨he, hs2⟩ => ⟨3, d, _, he, hs2, rfl, hd, .inr (.inr ⟨by decide, by decide, .inr ⟨hoff, hbr, hs⟩⟩)⟩
theorem p_open {d2 : Dk} {o2 : Option (Nat × Va)} (h : St w0 A D d2 o2 R w) (hr : Run d o p) (hs : SettledV d d2) (g : DG d2 k m) (hk : k ≤ 900000) (hm : m ≤ 9000000) (ht : KTab w0) (h1 : p.all.length + p.more.length ≤ 1000000) (h2 : p.next.length ≤ 1000000) :
    Calls Tryd.prog 11 #[.pointer (some ⟨D, 0, none⟩)] w fun e w' =>
      (∃ V x q cap ls d', e = .returned (.tuple #[.pointer (some ⟨V, 0, none⟩), .slice q ls.length cap, .int .i64 0]) ∧ StT w0 A D d' (some (V, x)) ((.slice q ls.length cap, ls) :: R) w w' ∧ DG d' (k + 4) (m + 176) ∧ p.found ls ∧ Run d' (some (V, x)) (.sure ls)) ∨
      (d2.fused = true ∧ ∃ d', e = .returned (.tuple #[.pointer none, .slice none 0 0, .int .i64 8]) ∧ StT w0 A D d' none R w w' ∧ DG d' (k + 4) (m + 176) ∧ Run d' none p) := by
  have hc := st_open h g hk hm ht
  have hdo := g.openV
  rcases open_past hr hs g.by_ h1 h2 with ⟨d', x, ls, e1, e2, e3⟩ | ⟨d', e1, e2, e3⟩
  · rw [e1] at hc hdo
    refine hc.mono fun e w' ⟨V, rv, he, hs2, q⟩ => .inl ?_
    obtain ⟨p', cap, rfl, -⟩ := (hs2.rdl (List.mem_cons_self ..)).shape
    exact ⟨V, x, p', cap, ls, d', he, ⟨hs2, q⟩, hdo, e2, .inl ⟨V, x, rfl, e3, rfl⟩⟩
  · rw [e1] at hc hdo
    exact hc.mono fun e w' ⟨he, hs2⟩ => .inr ⟨e2, d', he, hs2, hdo, e3 none rfl⟩
end
end Go.Proofs.YtfohemgfiidokaaDoor
