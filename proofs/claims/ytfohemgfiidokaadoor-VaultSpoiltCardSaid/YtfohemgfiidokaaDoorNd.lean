/- A law's disk beside bytes that nobody writes; the first calls of VaultSpoilt. -/
import Derived.Test.YtfohemgfiidokaaDoorNc
import Derived.Test.YtfohemgfiidokaaDoorPh
import Derived.Lib.SmallJoins
namespace Go.Proofs.YtfohemgfiidokaaDoor
open Go.RowKit Go.Sort

theorem open_fresh2 {most : Int} (h0 : 44 ≤ most) (h1 : most ≤ 4194304) : ∃ d', (freshD most).openV = (0, d', some (⟨1, 1, 0, false⟩, [])) ∧ Live d' ⟨1, 1, 0, false⟩ [] ∧ d'.fused = false ∧ d'.most = most ∧ d'.file 1 = ⟨headI 1 0, []⟩ :=
  begin_unf2 rfl rfl (fresh_dg (by omega) h1).sz (by omega) (by omega) rfl (fun b hb g l2 e => by
    have : b = [] := hb.sure
    rw [this, look_nil] at e; cases e) h0 (by
    show updI (updI none 0 (lookI 0 [])) 1 (lookI 1 []) = none
    rw [look_nil, look_nil]; rfl)
section
variable {w0 w : World} {A : List Nat} {D : Nat} {d : Dk} {o : Option (Nat × Va)} {R : List (Value × List (List Int))} {most : Int} {k m V : Nat} {x : Va}
theorem sp_fresh (h0 : 44 ≤ most) (h1 : most ≤ 4194304) (h : St w0 A D (freshD most) o R w) (ht : KTab w0) : Calls Tryd.prog 11 #[.pointer (some ⟨D, 0, none⟩)] w fun e w' =>
    ∃ V p cap d1, e = .returned (.tuple #[.pointer (some ⟨V, 0, none⟩), .slice p 0 cap, .int .i64 0]) ∧ St w0 A D d1 (some (V, ⟨1, 1, 0, false⟩)) R w' ∧ Kept most d1 ⟨1, 1, 0, false⟩ [] 4 176 ∧ d1.file 1 = ⟨headI 1 0, []⟩ := by
  have hdg := fresh_dg (most := most) (by omega) h1
  have hc := st_open h hdg (by omega) (by omega) ht
  have hdo := hdg.openV
  obtain ⟨d', e1, e2, e3, e4, e5⟩ := open_fresh2 h0 h1
  rw [e1] at hc hdo
  refine hc.mono fun e w' ⟨V, rv, he, hs, q⟩ => ?_
  obtain ⟨p, cap, rfl, -⟩ := (hs.rdl (List.mem_cons_self ..)).shape
  exact ⟨V, p, cap, d', he, hs.sub fun p hp => List.mem_cons_of_mem _ hp, ⟨e2, e3, e4, hdo⟩, e5⟩
theorem sp_add (h : St w0 A D d (some (V, ⟨1, 1, 0, false⟩)) R w) (kp : Kept most d ⟨1, 1, 0, false⟩ [] k m) (hk : k ≤ 900000) (hm : m ≤ 9000000) (ht : KTab w0) (hf : d.file 1 = ⟨headI 1 0, []⟩) (v : Value) (ms : List (List Int)) (hv : RdL w v ms) (hms : RecOk ms) (hsz : sizeI ms ≤ 10000000) (hln : ms.length ≤ 250000) (hrm : ((44 + sizeI ms : Nat) : Int) ≤ most) :
    Calls Tryd.prog 12 #[.pointer (some ⟨V, 0, none⟩), v] w fun e w' => e = .returned (.int .i64 0) ∧ ∃ d' x', St w0 A D d' (some (V, x')) R w' ∧ Kept most d' x' ms (k + 4) (m + 4 * (44 + sizeI ms)) ∧ x'.file = 1 ∧ x'.gen = 1 ∧ d'.file 1 = ⟨headI 1 0 ++ framesI 1 0 ms, []⟩ := by
  have hc := k_add h kp hk hm ht v ms hv hms hsz hln (by simp; omega)
  have hroom := kp.live.room
  rw [kp.most_] at hroom
  have hr0 : sizeI ([] : List (List Int)) = 0 := rfl
  rw [hr0] at hroom
  have hr1 : (sizeI ms : Int) ≤ roomF d := by omega
  have hc2 := st_add h kp.dg hk hm ht v ms hv (fun r hr => (hms r hr).1) hsz hln ⟨by rw [kp.live.n]; omega, by rw [kp.live.n]; simp⟩
  have hd := kp.dg.addV ⟨1, 1, 0, false⟩ ms (fun r hr => (hms r hr).1)
  rcases add_live kp.live kp.dg.sz ms hms (by simp; omega) with ⟨h1, h2⟩ | ⟨h1, ⟨d', h2, h3, h4, h5⟩ | ⟨d', h2, h3, h4, -⟩⟩
  · omega
  · have hfl : d'.file 1 = ⟨headI 1 0 ++ framesI 1 0 ms, []⟩ := by
      by_cases h0 : ms.length = 0
      · have hn : ms = [] := List.length_eq_zero_iff.1 h0
        subst hn
        have hv := vmay_live kp.live hms
        have : d.addV ⟨1, 1, 0, false⟩ [] = (0, d, ⟨1, 1, 0, false⟩) := by
          unfold Dk.addV; rw [if_neg (by simp [hv]), if_neg (by omega), if_pos (show ([] : List (List Int)).length = 0 from rfl)]
        rw [this] at h2
        have e2 := congrArg (fun q => q.2.1) h2
        simp only at e2
        rw [← e2, hf]; simp [framesI]
      · have := (add_file kp.live kp.fu kp.dg.sz ms hms hr1 h0 hf).1
        rw [h2] at this
        exact this
    rw [h2] at hc2 hd
    exact hc2.mono fun e w' ⟨he, hs⟩ => ⟨he, d', _, hs.1, ⟨h3, by rw [h4]; exact kp.fu, by rw [h5]; exact kp.most_, hd⟩, rfl, rfl, hfl⟩
  · rw [kp.fu] at h4; cases h4
end
/-- how the law's memory stands beside bytes that nobody writes -/
def StB (w0 : World) (A : List Nat) (D : Nat) (d : Dk) (R : List (Value × List (List Int))) (v : Value) (b : List Int) (w : World) : Prop :=
  ∃ ρ, DiskAt w ρ w0.heap.size D d ∧ (∀ g, g < w0.heap.size → ρ g = 0) ∧ (∀ a, a ∈ A → a < w.heap.size ∧ w0.heap.size ≤ a ∧ ρ a = 4) ∧ RowKit.Below w0.heap.size w0 w ∧ (∀ p, p ∈ R → RdLS w ρ p.1 p.2) ∧ RdS w ρ v b
section
variable {w0 w : World} {A : List Nat} {D : Nat} {d : Dk} {o : Option (Nat × Va)} {R : List (Value × List (List Int))} {v : Value} {b : List Int}
theorem StB.st (h : StB w0 A D d R v b w) : St w0 A D d none R w := by
  obtain ⟨ρ, h1, h2, h3, h4, h6, h7⟩ := h
  exact ⟨ρ, h1, h2, h3, h4, fun V x e => by simp at e, h6⟩
theorem StB.rd (h : StB w0 A D d R v b w) : RdB w v b := by
  obtain ⟨ρ, h1, h2, h3, h4, h6, h7⟩ := h
  exact h7.rdb
theorem St.toB (h : St w0 A D d o R w) {W : World} (hb : RowKit.Below w.heap.size w W) (hv : RdM w0.heap.size w.heap.size W v b) : StB w0 A D d R v b W := by
  have hk := hb.size
  obtain ⟨ρ, h1, h2, h3, h4, h5, h6⟩ := h
  exact ⟨ρ, h1.keep hb, h2, fun a ha => ⟨by have := (h3 a ha).1; omega, (h3 a ha).2⟩, bel_call h4 hb, fun p hp => (h6 p hp).keep hb, hv.rds h2 h1.fresh⟩
theorem stb_left {w' : World} {d' : Dk} {ρ : Nat → Nat} (h2 : ∀ g, g < w0.heap.size → ρ g = 0) (h3 : ∀ a, a ∈ A → a < w.heap.size ∧ w0.heap.size ≤ a ∧ ρ a = 4) (h4 : RowKit.Below w0.heap.size w0 w) (h6 : ∀ p, p ∈ R → RdLS w ρ p.1 p.2) (h7 : RdS w ρ v b) (hl : Left ρ w0.heap.size D w d' w') : StB w0 A D d' R v b w' := by
  obtain ⟨ρ', k1, k2⟩ := hl
  have hs := h4.size
  have hs2 := k2.size
  exact ⟨ρ', k1, fun g hg => (k2.role g (by omega)).trans (h2 g hg), fun a ha => ⟨by have := (h3 a ha).1; omega, (h3 a ha).2.1, (k2.role a (h3 a ha).1).trans (h3 a ha).2.2⟩, h4.trans (k2.below fun g hg => ⟨by omega, .inl (h2 g hg)⟩),
    fun p hp => RdLS.mvv (V := 0) (h6 p hp) (k2.v 0), h7.mv k2⟩
theorem stb_cut (h : StB w0 A D d R v b w) (ok : DOk d) (f n : Int) : Calls Tryd.prog 21 #[.pointer (some ⟨D, 0, none⟩), .int .i64 f, .int .i64 n] w fun e w' => e = .returned (.int .i64 (d.cut f n).1) ∧ StB w0 A D (d.cut f n).2 R v b w' := by
  obtain ⟨ρ, h1, h2, h3, h4, h6, h7⟩ := h
  exact (cut_any h1 ok f n).mono fun e w' ⟨he, hl⟩ => ⟨he, stb_left h2 h3 h4 h6 h7 hl⟩
theorem stb_write (h : StB w0 A D d R v b w) (ok : DOk d) (f : Int) (hbl : b.length ≤ 1000000000) : Calls Tryd.prog 22 #[.pointer (some ⟨D, 0, none⟩), .int .i64 f, v] w fun e w' => e = .returned (.int .i64 (d.write f b).1) ∧ StB w0 A D (d.write f b).2 R v b w' := by
  obtain ⟨ρ, h1, h2, h3, h4, h6, h7⟩ := h
  exact (write_any h1 ok f v b h7 hbl).mono fun e w' ⟨he, hl⟩ => ⟨he, stb_left h2 h3 h4 h6 h7 hl⟩
end
theorem RdN.rds {w : World} {B : Nat} {u : Value} {r : List Int} {ρ : Nat → Nat} (h : RdN w B u r) (hf : ∀ g, B ≤ g → ρ g = 0) : RdS w ρ u r := by
  obtain ⟨g, cap, cs, fr, h1, h2, h3, h4, h5⟩ := h
  exact .inr ⟨_, g, 0, cap, h1, h2, fun _ => ⟨rfl, hf g h3⟩, fun j hj => by rw [Nat.zero_add, cell_of_row w g j cs _ _ h4]; exact h5 j hj⟩
theorem FrT.rdls {w : World} {B : Nat} {v : Value} {ls : List (List Int)} {ρ : Nat → Nat} (h : FrT w B v ls) (hf : ∀ g, B ≤ g → ρ g = 0) : RdLS w ρ v ls := by
  obtain ⟨vs, ⟨h1, h2⟩, h3⟩ := h
  rcases h2 with ⟨rfl, h2⟩ | ⟨g, cap, cur, rfl, q1, q2, q3, q4, q5, q6⟩
  · exact .inl ⟨rfl, List.length_eq_zero_iff.1 h2⟩
  · refine .inr ⟨_, g, 0, cap, rfl, q3, fun _ => ⟨rfl, hf g q1⟩, fun j hj => ?_⟩
    obtain ⟨u, e1, e2⟩ := h3 j hj
    refine ⟨u, ?_, ?_⟩
    · rw [cell_of_row w g (0 + j) cur _ _ q2, Nat.zero_add, ← Array.getElem?_toList, ← e1, ← q6, List.getElem?_take_of_lt (by omega)]
    · rw [List.getElem?_eq_getElem hj]; exact e2.rds hf
theorem xor_u8 (a b : Int) : 0 ≤ bits .xor .u8 a b ∧ bits .xor .u8 a b ≤ 255 := by
  have h : ∀ n : Int, 0 ≤ IntKind.u8.wrap n ∧ IntKind.u8.wrap n ≤ 255 := fun n => by rw [IntKind.wrap_u8]; omega
  unfold bits
  exact h _
theorem bytes_set {xs : List Int} (h : Bytes xs) (k : Nat) (z : Int) (hz : 0 ≤ z ∧ z ≤ 255) : Bytes (xs.set k z) := fun x hx => by
  rcases List.mem_or_eq_of_mem_set hx with hx | rfl
  · exact h x hx
  · exact hz
/-- a row of the call's own, one byte turned -/
theorem rowO_turned {w : World} {B : Nat} {v : Value} {xs : List Int} (h : RowO w B v xs) (lo : Nat) (k : Nat) (hk : k < xs.length) (z : Int) : ∃ g cap, v = .slice (some ⟨g, 0, none⟩) xs.length cap ∧ xs.length ≤ cap ∧ B ≤ g ∧ g < w.heap.size ∧ w.cell? ⟨g, k, none⟩ = some (.int .u8 (xs[k]?.getD 0)) ∧ w.frozen? ⟨g, k, none⟩ = false ∧ RdM lo B (w.setCell ⟨g, k, none⟩ (.int .u8 z)) v (xs.set k z) := by
  have hc := h.cells (by omega)
  obtain ⟨e1, e2⟩ := h
  rcases e2 with ⟨-, e2⟩ | ⟨g, cap, cur, rfl, q1, q2, q3, q4, q5, q6⟩
  · omega
  · obtain ⟨g2, cap2, e3, e4, e5, e6⟩ := hc
    cases e3
    refine ⟨g, cap, rfl, q3, q1, (Array.getElem?_eq_some_iff.1 q2).1, e6 k hk, Joins.unfrozen_of_block q2 k, .inr ⟨_, g, 0, cap, by rw [List.length_set], by rw [List.length_set]; exact q3, fun _ => ⟨rfl, .inr q1⟩, fun j hj => ?_⟩⟩
    rw [List.length_set] at hj
    have hb := Joins.block_setCell (i := k) q2 (.int .u8 z)
    rw [Nat.zero_add, cell_of_row _ _ _ _ _ _ hb]
    by_cases hjk : k = j
    · subst hjk
      have hlt : k < cur.size := by
        have := e6 k hk
        rw [cell_of_row _ _ _ _ _ _ q2] at this
        exact (Array.getElem?_eq_some_iff.1 this).1
      rw [Array.getElem?_setIfInBounds_self_of_lt hlt, List.getElem?_set_self hk]; rfl
    · rw [Array.getElem?_setIfInBounds_ne hjk, List.getElem?_set_ne hjk, ← cell_of_row _ _ j _ _ _ q2]
      exact e6 j hj
theorem rowO_rdm {w : World} {B : Nat} {v : Value} {xs : List Int} (h : RowO w B v xs) (lo : Nat) : RdM lo B w v xs := by
  by_cases h0 : xs.length = 0
  · have hn : xs = [] := List.length_eq_zero_iff.1 h0
    subst hn
    obtain ⟨e1, e2⟩ := h
    rcases e2 with ⟨e, -⟩ | ⟨g, cap, cur, rfl, q1, q2, q3, q4, q5, q6⟩
    · exact .inl ⟨e, rfl⟩
    · exact .inr ⟨_, g, 0, cap, rfl, Nat.zero_le _, fun hl => by simp at hl, fun j hj => by simp at hj⟩
  · obtain ⟨g, cap, e1, e2, e3, e4⟩ := h.cells (by omega)
    exact .inr ⟨_, g, 0, cap, e1, e3, fun _ => ⟨rfl, .inr e2⟩, fun j hj => by rw [Nat.zero_add]; exact e4 j hj⟩
end Go.Proofs.YtfohemgfiidokaaDoor
