/- A range over a function whose iterator keeps state in a cell of its own (block bx), and whose body goes on in every round. -/
import Derived.RangeFuncNested
import Derived.RangeFuncBound
import Derived.RangeFuncCalls
import Derived.RangeFuncLeaves
import Derived.RangeFuncWrites
import Derived.Test.YtfohemgfiidokaaGreatDoorYj
namespace Go.Proofs.YtfohemgfiidokaaGreatDoor
open Go.RowKit Go.Sort

/-- how the body of a round is left -/
def goesOn (B : Nat) (Kp : World → World → Prop) (I : List (List Int) → World → Prop) (xs : List (List Int)) (W : World) : Exit → Act → World → Prop
  | .normal, _, W' => KeepsFrom B W W' ∧ Kp W W' ∧ I xs W'
  | _, _, _ => False

theorem rangeFunc_st {F : Fence} {n : Nat} {P : Program} {g : Operand} {ps : Array Tmp} {assign body : Code} {Q : Exit → Act → World → Prop} {a : Act} {w : World}
    (hro : F.round = none) (h1 : 1 ≤ n) {gf : Nat} {lb : Array Value} (hg : a.eval g = .func (.func gf) #[] lb) (hFg : F.fn gf) (eg : ∀ args w, (callFunc gf args).run P w = .ok (.enter gf args) w)
    (hps : ps.size = 1) (bx : Nat) (rs : List (List Int)) (Rd : World → Value → List Int → Prop) (Kp : World → World → Prop)
    (hseq : ∀ (l : Nat) (J : List (List Int) → World → Prop) (W : World), Below w.heap.size w W → AbidesFrom W.heap.size J → (∀ s A v, J s A → J s (A.setCell ⟨bx, 0, none⟩ v)) →
      (∀ pre r v W1, J pre W1 → Rd W1 v r → pre ++ [r] <+: rs → YieldAt F (n - 1 - 1) P l #[v] W1 fun e W' => e = .returned (.bool true) ∧ J (pre ++ [r]) W' ∧ Kp W1 W') → J [] W →
      CallsIn F (n - 1) P gf (#[.func (.yield l) #[] #[]] ++ lb) W fun e W' => (∃ v, e = .returned v) ∧ J rs W')
    (hKt : ∀ {A B C : World}, Kp A B → Kp B C → Kp A C) (hKb : ∀ (W : World) (l : Nat) (o o' : Obj), w.heap.size ≤ l → W.heap[l]? = some o → o.isCells = false → Kp W (W.putObj l o'))
    (hRd : ∀ (W : World) (l : Nat) (o o' : Obj) v r, Rd W v r → W.heap[l]? = some o → o.isCells = false → Rd (W.putObj l o') v r)
    (I : List (List Int) → World → Prop) (hI : OwnFrom w.heap.size I) (hIb : ∀ s A v, I s A → I s (A.setCell ⟨bx, 0, none⟩ v)) (hbx : bx < w.heap.size) (h0 : I [] w)
    (hround : ∀ (l : Nat) (pre : List (List Int)) (r : List Int) (v : Value) (W : World), I pre W → Rd W v r → pre ++ [r] <+: rs →
      assign.wpIn (F.inRound l) (n - 1 - 1) P (Exit.then (fun a' W' => W' = W ∧ ∀ W2, I pre W2 → Rd W2 v r → body.wpIn (F.inRound l) (n - 1 - 1) P (goesOn w.heap.size Kp I (pre ++ [r]) W2) a' W2) (fun _ _ _ => False))
        { tmps := (ps.zip #[v]).foldl (fun t (p, v) => t.setIfInBounds p v) a.tmps, defers := [] } W)
    (hdone : ∀ (D : Nat) (W : World), w.heap.size ≤ D → I rs W → W.heap[D]? = some (.deferred (some [])) → Q .normal { a with defers := { target := .collected D, args := #[] } :: a.defers } W) :
    (Code.rangeFunc g ps assign body).wpIn F n P Q a w := by
  refine wpIn_rangeFunc fun fn hfn => ?_
  rw [hro]
  obtain ⟨rec, hrec⟩ : ∃ rec : LoopState → Loop, rec = fun st => { state := st, pending := none, fn, tmps := a.tmps, params := ps, assign, body, defers := w.heap.size } := ⟨_, rfl⟩
  have ha1 := World.alloc_heap_new w (.deferred (some []))
  have ha2 := World.alloc_heap_new (w.alloc (.deferred (some []))) (.loop (rec .ready))
  rw [World.size_alloc] at ha2
  have hk0 : ((w.alloc (.deferred (some []))).alloc (.loop (rec .ready))).heap[w.heap.size]? = some (.deferred (some [])) := (Below.heap_alloc _ _ _ (by simp)).trans ha1
  have hbW : Below w.heap.size w ((w.alloc (.deferred (some []))).alloc (.loop (rec .ready))) := ((Below.refl _ w).alloc (Nat.le_refl _) _).alloc (by simp) _
  have hiW : I [] ((w.alloc (.deferred (some []))).alloc (.loop (rec .ready))) := hI.alloc _ (hI.alloc _ h0)
  obtain ⟨W1, hW1⟩ : ∃ W1, (w.alloc (.deferred (some []))).alloc (.loop (rec .ready)) = W1 := ⟨_, rfl⟩
  rw [hW1] at hk0 hbW hiW ha2
  refine ⟨w.heap.size + 1, [{ target := .collected w.heap.size, args := #[] }], W1, { target := .fn (.func gf) lb, args := #[.func (.yield (w.heap.size + 1)) #[] #[]] }, W1, gf,
    #[.func (.yield (w.heap.size + 1)) #[] #[]] ++ lb, W1, ?_, ?_, ?_, ?_, fun _ => h1, ?_⟩
  · rw [← hW1, hrec]; exact run_enterLoop_outer _ _ _ _ _
  · simp only [resolve, hg]
    simp [go_sem]
  · intro f' hf'
    simp [Target.leads] at hf'
    subst hf'; exact hFg
  · simp [invoke, go_sem, eg]
  have hsz := hbW.size
  have lt1 : w.heap.size + 1 < W1.heap.size := (Array.getElem?_eq_some_iff.1 ha2).1
  refine (hseq (w.heap.size + 1) (fun pre W => I pre W ∧ W.heap[w.heap.size + 1]? = some (.loop (rec .ready)) ∧ W.heap[w.heap.size]? = some (.deferred (some []))) W1 hbW ?_ ?_ ?_ ⟨hiW, ha2, hk0⟩).mono ?_
  · -- steps of the iterator that make memory
    intro s A B row ⟨hs, hl, hk⟩ hg' hr
    have hw := fun r e => (hr r e).2
    exact ⟨hI s A B row hs hg' fun r e => ⟨by have := (hr r e).1; omega, by obtain ⟨o, ho, hw⟩ := (hr r e).2; exact ⟨o, ho, Obj.not_cells_of_walk hw⟩⟩, (grownBy_keeps hg' hw hl rfl).trans hl, (grownBy_keeps hg' hw hk rfl).trans hk⟩
  · -- its own cell
    intro s A v ⟨hs, hl, hk⟩
    exact ⟨hIb s A v hs, (set_heap (by omega)).trans hl, (set_heap (by omega)).trans hk⟩
  · -- one round
    intro pre r v W ⟨hi, hl, hk⟩ hrd hpre
    have hlt : w.heap.size + 1 < W.heap.size := (Array.getElem?_eq_some_iff.1 hl).1
    have hy := run_yield (P := P) (args := #[v]) hl (by rw [hrec]; exact hps.symm)
    rw [hrec] at hy
    refine ⟨fn, _, assign, body, hy, roundIn_of_wpIn hfn (wpIn_mono (hround _ pre r v W hi hrd hpre) ?_)⟩
    rintro e a' W' hp
    cases e <;> first | exact (hp : False).elim | skip
    obtain ⟨rfl, hbody⟩ := hp
    refine ⟨_, run_beginRound hl (by rw [hrec]), ?_⟩
    have hl2 := World.putObj_heap_same (w := W') (o := .loop { rec .ready with state := .busy }) hlt
    have hk2 := (World.putObj_heap_other (w := W') (o := .loop { rec .ready with state := .busy }) (show w.heap.size ≠ w.heap.size + 1 by omega)).trans hk
    refine wpIn_mono (hbody _ (hI.putObj _ hi (by omega) hl rfl) (hRd _ _ _ _ _ _ hrd hl rfl)) ?_
    rintro e a3 W3 hp
    cases e with
    | normal =>
      obtain ⟨hk3, hkp, hi3⟩ := hp
      have hl3 := hk3.same _ _ (by omega) hl2 rfl
      have hr := run_endRound (P := P) none hl3
      rw [hrec] at hr hl3
      refine ⟨_, _, hr, rfl, ⟨hI.putObj _ hi3 (by omega) hl3 rfl, ?_, (World.putObj_heap_other (by omega)).trans (hk3.same _ _ (Nat.le_refl _) hk2 rfl)⟩, hKt (hKt (hKb _ _ _ _ (by omega) hl rfl) hkp) (hKb _ _ _ _ (by omega) hl3 rfl)⟩
      rw [World.putObj_heap_same (Array.getElem?_eq_some_iff.1 hl3).1, hrec]
      rfl
    | ret => exact hp.elim
    | exit id => exact hp.elim
    | goto t => exact hp.elim
    | panic ch => exact hp.elim
    | outgrown => exact hp.elim
  · -- behind the iterator
    rintro e W2 ⟨⟨v, rfl⟩, hi, hl, hk⟩
    have hr := run_endLoop (P := P) hl (by rw [hrec]; simp)
    rw [hrec] at hr
    exact ⟨none, _, hr, hdone _ _ (Nat.le_refl _) (hI.putObj _ hi (by omega) hl rfl) ((World.putObj_heap_other (by omega)).trans hk)⟩
end Go.Proofs.YtfohemgfiidokaaGreatDoor
