/- Plain: whatever the power does: a disk under a vault. -/
import Derived.Test.YtfohemgfiidokaaDoorYx
namespace Go.Proofs.YtfohemgfiidokaaDoor
open Go.RowKit Go.Sort

/-- all changes done -/
def fullF (b : List Int) : List Chg → List Int
  | [] => b
  | c :: t => fullF (c.done b c.units) t
def unitsF : List Chg → Int
  | [] => 0
  | c :: t => c.units + unitsF t
theorem units_nn (c : Chg) : 0 ≤ c.units := by cases c <;> simp [Chg.units]
theorem unitsF_nn : ∀ l : List Chg, 0 ≤ unitsF l
  | [] => Int.le_refl _
  | c :: t => by have := units_nn c; have := unitsF_nn t; simp only [unitsF]; omega
theorem done_more (b : List Int) (c : Chg) (n : Int) (h : c.units ≤ n) : c.done b n = c.done b c.units := by
  cases c with
  | ct k => rfl
  | wr x =>
    simp only [Chg.done, Chg.units] at h ⊢
    rw [List.take_of_length_le (by omega), List.take_of_length_le (by omega)]
theorem kept_full : ∀ (l : List Chg) (b : List Int) (u : Int), unitsF l < u → keptF b u l = fullF b l
  | [], _, _, _ => rfl
  | c :: t, b, u, h => by
    have h1 := units_nn c
    have h2 := unitsF_nn t
    simp only [unitsF] at h
    rw [keptF, if_neg (by omega), fullF, done_more b c u (by omega), kept_full t _ _ (by omega)]
theorem full_snoc : ∀ (l : List Chg) (b : List Int) (c : Chg), fullF b (l ++ [c]) = c.done (fullF b l) c.units
  | [], _, _ => rfl
  | a :: t, b, c => by rw [List.cons_append, fullF, fullF, full_snoc t]
/-- one change more: what is kept is what was kept without it, or some of it is done to all -/
theorem kept_snoc : ∀ (l : List Chg) (b : List Int) (u : Int) (c : Chg), keptF b u (l ++ [c]) = keptF b u l ∨ ∃ n, 0 < n ∧ keptF b u (l ++ [c]) = c.done (fullF b l) n
  | [], b, u, c => by
    by_cases h : u ≤ 0
    · left; show (if u ≤ 0 then b else _) = b; rw [if_pos h]
    · right; exact ⟨u, by omega, by show (if u ≤ 0 then b else keptF (c.done b u) (u - c.units) []) = _; rw [if_neg h]; rfl⟩
  | a :: t, b, u, c => by
    by_cases h : u ≤ 0
    · left; rw [List.cons_append, keptF, if_pos h, keptF, if_pos h]
    · rw [List.cons_append, keptF, if_neg h, keptF, if_neg h]
      by_cases hu : a.units ≤ u
      · rw [done_more b a u hu, fullF]
        exact kept_snoc t _ _ c
      · left
        cases t with
        | nil => show (if u - a.units ≤ 0 then a.done b u else _) = a.done b u; rw [if_pos (by omega)]
        | cons d t => show (if u - a.units ≤ 0 then a.done b u else _) = (if u - a.units ≤ 0 then a.done b u else _); rw [if_pos (by omega), if_pos (by omega)]
theorem units_le (c : Chg) : c.units ≤ c.size + 1 := by cases c <;> simp only [Chg.units, Chg.size] <;> omega
theorem unitsF_le : ∀ l : List Chg, unitsF l ≤ sizes l + l.length
  | [] => by simp [unitsF, sizes]
  | c :: t => by have := units_le c; have := unitsF_le t; simp only [unitsF, sizes, List.length_cons]; omega
theorem stands_full {F : Fil} {k m : Nat} (h : FSz F k m) (hk : k ≤ 1000000000) (hm : m ≤ 1000000000) : F.stands = fullF F.s F.l := by
  refine kept_full _ _ _ ?_
  have h1 := unitsF_le F.l
  have h2 := h.1
  have h3 := h.2
  omega
/-- what may be left of a file -/
def Out (F : Fil) (b : List Int) : Prop := ∃ u, b = keptF F.s u F.l
theorem Out.sure {S b : List Int} (h : Out ⟨S, []⟩ b) : b = S := by obtain ⟨u, rfl⟩ := h; rfl
theorem out_sure (S : List Int) : Out ⟨S, []⟩ S := ⟨0, rfl⟩
theorem Out.put {F : Fil} {c : Chg} {b : List Int} (h : Out ⟨F.s, F.l ++ [c]⟩ b) : Out F b ∨ ∃ n, 0 < n ∧ b = c.done (fullF F.s F.l) n := by
  obtain ⟨u, rfl⟩ := h
  rcases kept_snoc F.l F.s u c with e | ⟨n, h1, e⟩
  · exact .inl ⟨u, e⟩
  · exact .inr ⟨n, h1, e⟩
theorem out_stands (F : Fil) : Out F F.stands := ⟨_, rfl⟩
/-- the best of two texts -/
def best2 (b0 b1 : List Int) : Option (Nat × Int × List (List Int)) := updI (updI none 0 (lookI 0 b0)) 1 (lookI 1 b1)
theorem best_two (d : Dk) : bestN d 2 = best2 d.f0.stands d.f1.stands := rfl
theorem look_par {f : Int} {b : List Int} {g : Int} {ls : List (List Int)} (h : lookI f b = some (g, ls)) : 1 ≤ g ∧ g % 2 = f := by
  obtain ⟨-, -, -, h1, -, h2, -⟩ := look_some h
  exact ⟨h1, h2⟩
theorem upd_none (b : Option (Nat × Int × List (List Int))) (f : Nat) : updI b f none = b := rfl
theorem upd_yes {b : Option (Nat × Int × List (List Int))} {f : Nat} {g : Int} {ls : List (List Int)} (h : genO b < g) : updI b f (some (g, ls)) = some (f, g, ls) := if_pos h
theorem upd_no {b : Option (Nat × Int × List (List Int))} {f : Nat} {g : Int} {ls : List (List Int)} (h : ¬ genO b < g) : updI b f (some (g, ls)) = b := if_neg h
theorem best_left {b0 b1 : List Int} {g : Int} {ls : List (List Int)} (h0 : lookI 0 b0 = some (g, ls)) (h1 : ∀ g2 l2, lookI 1 b1 = some (g2, l2) → g2 < g) : best2 b0 b1 = some (0, g, ls) := by
  have hp := (look_par h0).1
  have e0 : updI none 0 (some (g, ls)) = some (0, g, ls) := upd_yes (show (0 : Int) < g by omega)
  unfold best2
  rw [h0, e0]
  cases h : lookI 1 b1 with
  | none => rfl
  | some p =>
    obtain ⟨g2, l2⟩ := p
    have := h1 g2 l2 h
    exact upd_no (show ¬ g < g2 by omega)
theorem best_right {b0 b1 : List Int} {g : Int} {ls : List (List Int)} (h1 : lookI 1 b1 = some (g, ls)) (h0 : ∀ g2 l2, lookI 0 b0 = some (g2, l2) → g2 < g) : best2 b0 b1 = some (1, g, ls) := by
  have hp := (look_par h1).1
  unfold best2
  rw [h1]
  cases h : lookI 0 b0 with
  | none => exact upd_yes (show (0 : Int) < g by omega)
  | some p =>
    obtain ⟨g2, l2⟩ := p
    have h2 := h0 g2 l2 h
    have hp2 := (look_par h).1
    rw [upd_yes (b := none) (f := 0) (show (0 : Int) < g2 by omega)]
    exact upd_yes (show g2 < g from h2)
/-- the best of two, by its file -/
def pick (f : Nat) (a b : List Int) : Option (Nat × Int × List (List Int)) := if f = 0 then best2 a b else best2 b a
theorem best_pick {f : Nat} (hf : f < 2) {a b : List Int} {g : Int} {ls : List (List Int)} (h0 : lookI f a = some (g, ls)) (h1 : ∀ g2 l2, lookI (1 - f) b = some (g2, l2) → g2 < g) : pick f a b = some (f, g, ls) := by
  unfold pick
  rcases f with _ | _ | f
  · exact best_left h0 h1
  · exact best_right h0 h1
  · omega
theorem best_inv {b0 b1 : List Int} {f : Nat} {g : Int} {ls : List (List Int)} (h : best2 b0 b1 = some (f, g, ls)) : f < 2 ∧ lookI f (if f = 0 then b0 else b1) = some (g, ls) ∧ ∀ g2 l2, lookI (1 - f) (if f = 0 then b1 else b0) = some (g2, l2) → g2 < g := by
  have left : ∀ g0 l0, lookI 0 b0 = some (g0, l0) → (∀ g2 l2, lookI 1 b1 = some (g2, l2) → g2 < g0) → best2 b0 b1 = some (0, g0, l0) → f < 2 ∧ lookI f (if f = 0 then b0 else b1) = some (g, ls) ∧ ∀ g2 l2, lookI (1 - f) (if f = 0 then b1 else b0) = some (g2, l2) → g2 < g := fun g0 l0 h0 h1 hb => by
    rw [h] at hb
    injection hb with hb
    injection hb with e1 e2
    injection e2 with e2 e3
    subst e1; subst e2; subst e3
    exact ⟨by omega, h0, h1⟩
  have right : ∀ g1 l1, lookI 1 b1 = some (g1, l1) → (∀ g2 l2, lookI 0 b0 = some (g2, l2) → g2 < g1) → best2 b0 b1 = some (1, g1, l1) → f < 2 ∧ lookI f (if f = 0 then b0 else b1) = some (g, ls) ∧ ∀ g2 l2, lookI (1 - f) (if f = 0 then b1 else b0) = some (g2, l2) → g2 < g := fun g1 l1 h0 h1 hb => by
    rw [h] at hb
    injection hb with hb
    injection hb with e1 e2
    injection e2 with e2 e3
    subst e1; subst e2; subst e3
    exact ⟨by omega, h0, h1⟩
  cases h0 : lookI 0 b0 with
  | none =>
    cases h1 : lookI 1 b1 with
    | none =>
      unfold best2 at h
      rw [h0, h1] at h
      cases h
    | some p =>
      obtain ⟨g1, l1⟩ := p
      have hh : ∀ g2 l2, lookI 0 b0 = some (g2, l2) → g2 < g1 := fun g2 l2 h2 => by rw [h0] at h2; cases h2
      exact right g1 l1 h1 hh (best_right h1 hh)
  | some p =>
    obtain ⟨g0, l0⟩ := p
    have hp0 := look_par h0
    cases h1 : lookI 1 b1 with
    | none =>
      have hh : ∀ g2 l2, lookI 1 b1 = some (g2, l2) → g2 < g0 := fun g2 l2 h2 => by rw [h1] at h2; cases h2
      exact left g0 l0 h0 hh (best_left h0 hh)
    | some q =>
      obtain ⟨g1, l1⟩ := q
      have hp1 := look_par h1
      by_cases hlt : g0 < g1
      · have hh : ∀ g2 l2, lookI 0 b0 = some (g2, l2) → g2 < g1 := fun g2 l2 h2 => by rw [h0] at h2; cases h2; exact hlt
        exact right g1 l1 h1 hh (best_right h1 hh)
      · have hh : ∀ g2 l2, lookI 1 b1 = some (g2, l2) → g2 < g0 := fun g2 l2 h2 => by rw [h1] at h2; cases h2; omega
        exact left g0 l0 h0 hh (best_left h0 hh)
/-- of a text that is sound, its sound part -/
theorem nxt_inv {g k : Int} {b r t : List Int} (hb : Bytes b) (h : nxt g k b = some (r, t)) : b = frameI g k r ++ t ∧ r.length ≤ 32768 ∧ Bytes r ∧ Bytes t := by
  obtain ⟨z, h1, h2, h3, h4, h5, h6, h7⟩ := nxt_some hb h
  have hr4 : b.take (z + 4) = recI r := by
    have e1 : b.take (z + 4) = (b.take (z + 4)).take 4 ++ (b.take (z + 4)).drop 4 := (List.take_append_drop 4 _).symm
    rw [e1, ← h4, List.take_take, Nat.min_eq_left (by omega), recI]
    congr 1
    have h8 := low_ofBytes (b.take 4) (hb.take 4)
    rw [h1, show (b.take 4).length = 4 by rw [List.length_take]; omega] at h8
    rw [h6]; exact h8.symm
  have h9 : b.drop (z + 36) = t := h5.symm
  refine ⟨?_, by omega, ?_, by rw [h5]; exact hb.drop _⟩
  · rw [frameI, ← hr4, h7, List.append_assoc, ← h9]
    have e2 : b = b.take (z + 4) ++ ((b.drop (z + 4)).take 32 ++ (b.drop (z + 4)).drop 32) := by rw [List.take_append_drop, List.take_append_drop]
    rw [show b.drop (z + 36) = (b.drop (z + 4)).drop 32 by rw [List.drop_drop]]
    exact e2
  · rw [h4]; exact (hb.take _).drop _
theorem whole_inv (g : Int) : ∀ (f : Nat) (k : Int) (b : List Int), Bytes b → ∃ t, b = framesI g k (wholeF g f k b) ++ t ∧ RecOk (wholeF g f k b)
  | 0, k, b, _ => ⟨b, rfl, fun r hr => by simp [wholeF] at hr⟩
  | f + 1, k, b, hb => by
    rw [wholeF]
    cases hn : nxt g k b with
    | none => exact ⟨b, rfl, fun r hr => by simp at hr⟩
    | some p =>
      obtain ⟨r, t⟩ := p
      obtain ⟨h1, h2, h3, h4⟩ := nxt_inv hb hn
      obtain ⟨t2, h5, h6⟩ := whole_inv g f (k + 1) t h4
      refine ⟨t2, ?_, fun x hx => ?_⟩
      · dsimp only [framesI]
        rw [List.append_assoc, ← h5]; exact h1
      · rcases List.mem_cons.1 hx with rfl | hx
        · exact ⟨h3, h2⟩
        · exact h6 x hx
theorem look_inv {f : Int} {b : List Int} (hb : Bytes b) {g : Int} {ls : List (List Int)} (h : lookI f b = some (g, ls)) : Good g ls (b.take (44 + sizeI ls)) ∧ RecOk ls ∧ (1 ≤ g ∧ g ≤ 4611686018427387904) ∧ g % 2 = f := by
  obtain ⟨h44, hg, hls, h1, h2, h3, h4, hc⟩ := look_some h
  obtain ⟨t, ht, hok⟩ := whole_inv g (b.drop 44).length 0 (b.drop 44) (hb.drop 44)
  have hls' : wholeF g (b.drop 44).length 0 (b.drop 44) = ls := by rw [hls]; rfl
  rw [hls'] at ht hok
  obtain ⟨n, hn⟩ := Int.eq_ofNat_of_zero_le (ofBytes_bd _ ((hb.drop 8).take 4)).1
  rw [hn] at h4
  have e8 : b.take 8 = low g 8 := by
    have := low_ofBytes (b.take 8) (hb.take 8)
    rw [show (b.take 8).length = 8 by rw [List.length_take]; omega, ← hg] at this
    exact this.symm
  have e4 : (b.drop 8).take 4 = low n 4 := by
    have := low_ofBytes ((b.drop 8).take 4) ((hb.drop 8).take 4)
    rw [show ((b.drop 8).take 4).length = 4 by rw [List.length_take, List.length_drop]; omega, hn] at this
    exact this.symm
  have e12 : b.take 12 = low g 8 ++ low n 4 := by rw [← e8, ← e4, ← List.take_add]
  have e44 : b.take 44 = headI g n := by
    rw [headI, ← e12, hc, show (44 : Nat) = 12 + 32 from rfl, List.take_add]
  refine ⟨⟨n, by omega, ?_⟩, hok, ⟨h1, h2⟩, h3⟩
  rw [List.take_add, e44]
  congr 1
  rw [ht, List.take_append_of_le_length (by rw [framesI_len]; exact Nat.le_refl _), List.take_of_length_le (by rw [framesI_len]; exact Nat.le_refl _)]
end Go.Proofs.YtfohemgfiidokaaDoor
