/- A region that draws its order and ends in an operation that all others stand ahead of: what a load reads need not be shown anew behind that last one. The closure of Cut. The closure of Write. (*Disk).On. (*Disk).Sync where the power goes, or where it may not be; On of a disk that is on. (*Disk).Cut, from its closure's contract. (*Disk).Write, from its closure's contract. -/
import Derived.Test.YtfohemgfiidokaaGreatDoorProg
import Derived.WalkKit
import Derived.StillTail
import Derived.Deep.RegionHeld3
import Derived.Test.YtfohemgfiidokaaGreatDoorMb
import Derived.Deep.Cut
import Derived.Deep.QuietTactic
import Derived.BigQuiet
namespace Go.Proofs.YtfohemgfiidokaaGreatDoor
open Go.RowKit

section
variable {P : Program} {ops : Array Oper} {Q : Exit → Act → World → Prop} {md : Region.Mode} {S : World → Prop}

def wpAnyT (P : Program) (md : Region.Mode) (ops : Array Oper) (Q : Exit → Act → World → Prop) (S : World → Prop) (n : Nat) : Nat → Array Bool → Act → World → Prop
  | 0, listed, a, w => Region.ready md ops listed = [] ∧ Q .normal a w
  | fuel + 1, listed, a, w =>
    (Region.ready md ops listed = [] → Q .normal a w) ∧
    ∀ i ∈ Region.ready md ops listed, wpOp P ops Q i (fun a' w' => (i < n → S w') ∧ wpAnyT P md ops Q S n fuel (listed.setIfInBounds i true) a' w') a w

theorem wpAny_of_T {n : Nat} : ∀ (fuel : Nat) (listed : Array Bool) (a : Act) (w : World), wpAnyT P md ops Q S n fuel listed a w → wpAny P md ops Q fuel listed a w
  | 0, _, _, _, h => h
  | fuel + 1, _, _, _, h => ⟨h.1, fun i hi => wpOp_mono (fun a' w' h' => wpAny_of_T fuel _ a' w' h'.2) (h.2 i hi)⟩

theorem wpAnyT_first {n i : Nat} {oi : Oper} {v : Value} (hi : ops[i]? = some oi) (hsel : ∀ (j : Nat) (o : Oper) cs b, ops[j]? = some o → o.op ≠ .select cs b)
    (hQ : ∀ c a w, Q (.panic c) (a.put oi.dst v) w → Q (.panic c) a w) (hs : Region.sinkB md ops n = true) (hc : Region.chainB md ops n = true) (hn : n < ops.size) (hin : i < n) :
    ∀ (fuel : Nat) (listed : Array Bool) (a : Act) (w : World), HeadInv md ops n listed →
      (∀ j oj, ops[j]? = some oj → j ≠ i → listed.getD j true = false → (∀ e ∈ oj.after, Region.binds md e = true → e.on ≠ i) → oi.apart ops oj = true) →
      i ∈ Region.ready md ops listed → YieldsIf P ops S oi v a → S w →
      wpAnyT P md ops Q S n fuel (listed.setIfInBounds i true) (a.put oi.dst v) w → wpAnyT P md ops Q S n (fuel + 1) listed a w := by
  intro fuel
  induction fuel with
  | zero =>
    intro listed a w inv _ hr hy hS H
    refine ⟨fun h => (by rw [h] at hr; cases hr), fun j hj => ?_⟩
    by_cases hji : j = i
    · subst hji; exact hy.wpOp hi hS ⟨fun _ => hS, H⟩
    · have := ready_mono hj hji
      rw [H.1] at this
      cases this
  | succ fuel ih =>
    intro listed a w inv hfree hr hy hS H
    have hun := (mem_ready.1 hr).1
    refine ⟨fun h => (by rw [h] at hr; cases hr), fun j hj => ?_⟩
    have hjn : j < n := by
      rcases Nat.lt_or_ge j n with h | h
      · exact h
      · exact absurd hj (tail_waits hs hc hn inv _ i rfl hin hun j h)
    by_cases hji : j = i
    · subst hji; exact hy.wpOp hi hS ⟨fun _ => hS, H⟩
    · have h1 := H.2 j (ready_mono hj hji)
      obtain ⟨hjun, oj, hoj, hall⟩ := mem_ready.1 hj
      have hnot : ∀ e ∈ oj.after, Region.binds md e = true → e.on ≠ i := fun e he hb heq => by
        have h1 := hall e he hb
        rw [heq, getD_both hun] at h1
        cases h1
      have h2 := wpOp_putIf hoj (hfree j oj hoj hji hjun hnot) (fun cs b => hsel i oi cs b hi) (fun cs b => hsel j oj cs b hoj) hQ hy h1
      have hfree' : ∀ k ok, ops[k]? = some ok → k ≠ i → (listed.setIfInBounds j true).getD k true = false →
          (∀ e ∈ ok.after, Region.binds md e = true → e.on ≠ i) → oi.apart ops ok = true := fun k ok hk hki hun hno => by
        refine hfree k ok hk hki ?_ hno
        by_cases hjk : j = k
        · subst hjk; exact hjun
        · rw [getD_set_ne true hjk] at hun; exact hun
      refine wpOp_mono (fun a' w' h3 => ⟨h3.2.1, ih (listed.setIfInBounds j true) a' w' (inv.set hj hjn) hfree' (ready_mono hr (Ne.symm hji)) h3.1 (h3.2.1 hjn) ?_⟩) h2
      rw [Array.setIfInBounds_comm _ _ hji]
      exact h3.2.2

def Region.lastB (md : Region.Mode) (ops : Array Oper) (n : Nat) : Bool := Region.sinkB md ops n && Region.chainB md ops n && decide (n < ops.size) && Region.noSelect ops
def headB (md : Region.Mode) (ops : Array Oper) (n : Nat) (listed : Array Bool) : Bool :=
  (listed.size == ops.size) &&
  ((List.range ops.size).all fun j => !listed.getD j false || ((ops[j]?).map (·.after.all fun e => !Region.binds md e || listed.getD e.on false)).getD true) &&
  ((List.range ops.size).all fun t => decide (t < n) || !listed.getD t true)
theorem headB_spec {n : Nat} {listed : Array Bool} (h : headB md ops n listed = true) : HeadInv md ops n listed := by
  simp only [headB, Bool.and_eq_true, beq_iff_eq, List.all_eq_true, List.mem_range] at h
  obtain ⟨⟨h1, h2⟩, h3⟩ := h
  refine ⟨h1, fun j oj hj hl e he hb => ?_, fun t ht htl => ?_⟩
  · have := h2 j (Array.getElem?_eq_some_iff.1 hj).1
    simp only [hl, hj, Bool.not_true, Bool.false_or, Option.map_some, Option.getD_some] at this
    have := Array.all_eq_true'.1 this e he
    simpa [hb] using this
  · have := h3 t htl
    have hd : decide (t < n) = false := decide_eq_false (by omega)
    rw [hd, Bool.false_or] at this
    simpa using this

/-- Take number i first. -/
theorem wpAnyT_take {n : Nat} (i : Nat) {oi : Oper} {v : Value} {fuel : Nat} {listed : Array Bool} {a : Act} {w : World} (hi : ops[i]? = some oi)
    (hL : Region.lastB md ops n = true) (hin : decide (i < n) = true) (hB : headB md ops n listed = true) (hf : Region.free md ops listed i = true) (hr : (Region.ready md ops listed).contains i = true)
    (hQ : ∀ c a w, Q (.panic c) (a.put oi.dst v) w → Q (.panic c) a w) (hy : YieldsIf P ops S oi v a) (hS : S w)
    (h : wpAnyT P md ops Q S n fuel (listed.setIfInBounds i true) (a.put oi.dst v) w) : wpAnyT P md ops Q S n (fuel + 1) listed a w := by
  simp only [Region.lastB, Bool.and_eq_true, decide_eq_true_eq] at hL
  obtain ⟨⟨⟨hs, hc⟩, hn⟩, hsel⟩ := hL
  exact wpAnyT_first hi (Region.noSelect_spec hsel) hQ hs hc hn (of_decide_eq_true hin) fuel listed a w (headB_spec hB) (Region.free_spec hi hf) (by simpa using hr) hy hS h

/-- Number i alone may come up. -/
theorem wpAnyT_step {n : Nat} (i : Nat) {o : Oper} {fuel : Nat} {listed : Array Bool} {a : Act} {w : World} (hr : Region.ready md ops listed = [i]) (ho : ops[i]? = some o)
    (h : ∀ K' : Act → World → Prop, Shut (∀ a w, (i < n → S w) → ((i < n → S w) → wpAnyT P md ops Q S n fuel (listed.setIfInBounds i true) a w) → K' a w) → if Region.wanted o (yielded ops a.tmps) = true then Oper.wp P o a w K' Q else K' (a.put o.dst undef) w) :
    wpAnyT P md ops Q S n (fuel + 1) listed a w := by
  refine ⟨fun h0 => absurd (hr ▸ h0) (by simp), fun j hj => ?_⟩
  rw [hr] at hj
  obtain rfl : j = i := by simpa using hj
  exact wpOp_step ho (fun K' hK => h K' (fun a w hS hW => hK a w ⟨hS, hW hS⟩))

theorem wpAnyT_done {n : Nat} {listed : Array Bool} {a : Act} {w : World} (hr : Region.ready md ops listed = []) (h : Q .normal a w) :
    ∀ fuel, wpAnyT P md ops Q S n fuel listed a w
  | 0 => ⟨hr, h⟩
  | _ + 1 => ⟨fun _ => h, by rw [hr]; simp⟩

theorem wp_region_last (n : Nat) {id : Nat} {a : Act} {w : World} (hm : P.follows .mixedOrders = true) (hS : S w.drew)
    (h : S w.drew → wpAnyT P .any ops Q S n ops.size (Array.replicate ops.size false) a w.drew) : (Code.region id ops true).wp P Q a w :=
  wp_region_any hm (wpAny_of_T _ _ _ _ (h hS))
end
end Go.Proofs.YtfohemgfiidokaaGreatDoor
namespace Go.Proofs.YtfohemgfiidokaaGreatDoor
open Go.RowKit Go.Sort

theorem own_shape {w : World} {B e size n : Nat} {v : Value} {us : List Value} (h : w.ownsRow B e size v n us) : ∃ p cap, v = .slice p n cap := by
  obtain ⟨-, ⟨h1, h2⟩ | ⟨g, cap, cur, h1, -⟩⟩ := h
  · exact ⟨none, 0, by rw [h1, h2]⟩
  · exact ⟨_, cap, h1⟩

set_option maxRecDepth 100000 in
set_option maxHeartbeats 1600000 in
theorem cut1_c {w : World} {ρ : Nat → Nat} {B D f : Nat} {d : Dk} (bd bf bn : Nat) (n : Int) (h : DiskAt w ρ B D d) (hf : f < 2) (hn : 0 ≤ n) (hlen : (d.file f).l.length ≤ 1000000000)
    (cd : w.cell? ⟨bd, 0, none⟩ = some (.pointer (some ⟨D, 0, none⟩))) (cf : w.cell? ⟨bf, 0, none⟩ = some (.int .i64 f)) (cn : w.cell? ⟨bn, 0, none⟩ = some (.int .i64 n)) (rd : ρ bd = 0) (rf : ρ bf = 0) (rn : ρ bn = 0) :
    Calls Tryz.prog 85 #[.pointer (some ⟨bd, 0, none⟩), .pointer (some ⟨bf, 0, none⟩), .pointer (some ⟨bn, 0, none⟩)] w fun e w' => e = .returned undef ∧ (∃ ρ', DiskAt w' ρ' B D (d.setFile f ⟨(d.file f).s, (d.file f).l ++ [.ct n]⟩) ∧ Mv ρ ρ' w w') := by
  obtain ⟨i0, hi, hz0, hz1, hz2⟩ := info_parts Tryz.info141
  have hlt := h.lt
  have hB := h.base
  obtain ⟨sv, lv, c0, c1, hs, us, hown, hrole, hch⟩ := h.file f hf
  have hus : us.length = (d.file f).l.length := by have := hown.1; omega
  have hbW : Below w.heap.size w (w.drew.alloc (.cells #[.iface 126 (.agg #[.int .i64 n])] 141)) := bel_alloc (Below.refl _ _).drew _
  have hdW := h.keep hbW
  have hownW := ownsRow_keep hown hbW
  have hnews : ∀ j u, ([.iface 126 (.agg #[.int .i64 n])] : List Value)[j]? = some u → (w.drew.alloc (.cells #[.iface 126 (.agg #[.int .i64 n])] 141)).cell? ((⟨w.heap.size, 0, none⟩ : Addr).add j) = some u := fun j u hu => by
    rcases j with _ | j
    · simp at hu; subst hu; simp [go_sem]
    · simp at hu
  have f0 : (0 : Int) ≤ f := by omega
  have f1 : (f : Int) < 2 := by omega
  have c1' : w.cell? ⟨D, f * 2 + 1, none⟩ = some lv := by rw [Nat.mul_comm]; exact c1
  have HR := Lib.hid (And.intro rd (And.intro rf rn))
  have HH := Lib.hid (And.intro hs (And.intro hrole hch))
  clear hs hrole hch rd rf rn
  have l1 : bd < w.heap.size := block_lt_of_cell cd
  have l2 : bf < w.heap.size := block_lt_of_cell cf
  have l3 : bn < w.heap.size := block_lt_of_cell cn
  go_enter Tryz.func85, Tryz.ntmps85
  refine wp_region_last (S := fun w' => w'.cell? ⟨bd, 0, none⟩ = some (.pointer (some ⟨D, 0, none⟩)) ∧ w'.cell? ⟨bf, 0, none⟩ = some (.int .i64 f) ∧ w'.cell? ⟨bn, 0, none⟩ = some (.int .i64 n) ∧ w'.cell? ⟨D, f * 2 + 1, none⟩ = some lv) 18 (by kernel_rfl) ⟨cd, cf, cn, c1'⟩ (fun hHeld => ?_)
  refine wpAnyT_take 0 (oi := ?_) (v := ?_) ?_ (by kernel_rfl) (by kernel_rfl) (by kernel_rfl) (by kernel_rfl) (by kernel_rfl) ?_ (Or.inl ⟨?_, ?_⟩) (by assumption) ?_
  rotate_left 2
  · simp only [List.getElem?_toArray, List.getElem?_cons_zero]; rfl
  · exact fun _ _ _ h => h
  · rfl
  · (intro w hSw; (try dsimp only at hSw); go_simp) <;> with_reducible rfl
  try simp only [Act.put, List.setIfInBounds_toArray, List.set_cons_zero, List.set_cons_succ]
  refine wpAnyT_take 1 (oi := ?_) (v := ?_) ?_ (by kernel_rfl) (by kernel_rfl) (by kernel_rfl) (by kernel_rfl) (by kernel_rfl) ?_ (Or.inl ⟨?_, ?_⟩) (by assumption) ?_
  rotate_left 2
  · simp only [List.getElem?_toArray, List.getElem?_cons_succ, List.getElem?_cons_zero]; rfl
  · exact fun _ _ _ h => h
  · rfl
  · (intro w hSw; (try dsimp only at hSw); go_simp) <;> with_reducible rfl
  try simp only [Act.put, List.setIfInBounds_toArray, List.set_cons_zero, List.set_cons_succ]
  refine wpAnyT_take 2 (oi := ?_) (v := ?_) ?_ (by kernel_rfl) (by kernel_rfl) (by kernel_rfl) (by kernel_rfl) (by kernel_rfl) ?_ (Or.inl ⟨?_, ?_⟩) (by assumption) ?_
  rotate_left 2
  · simp only [List.getElem?_toArray, List.getElem?_cons_succ, List.getElem?_cons_zero]; rfl
  · exact fun _ _ _ h => h
  · rfl
  · (intro w hSw; (try dsimp only at hSw); go_simp) <;> with_reducible rfl
  try simp only [Act.put, List.setIfInBounds_toArray, List.set_cons_zero, List.set_cons_succ]
  refine wpAnyT_take 3 (oi := ?_) (v := ?_) ?_ (by kernel_rfl) (by kernel_rfl) (by kernel_rfl) (by kernel_rfl) (by kernel_rfl) ?_ (Or.inl ⟨?_, ?_⟩) (by assumption) ?_
  rotate_left 2
  · simp only [List.getElem?_toArray, List.getElem?_cons_succ, List.getElem?_cons_zero]; rfl
  · exact fun _ _ _ h => h
  · rfl
  · (intro w hSw; (try dsimp only at hSw); go_simp) <;> with_reducible rfl
  try simp only [Act.put, List.setIfInBounds_toArray, List.set_cons_zero, List.set_cons_succ]
  refine wpAnyT_take 4 (oi := ?_) (v := ?_) ?_ (by kernel_rfl) (by kernel_rfl) (by kernel_rfl) (by kernel_rfl) (by kernel_rfl) ?_ (Or.inl ⟨?_, ?_⟩) (by assumption) ?_
  rotate_left 2
  · simp only [List.getElem?_toArray, List.getElem?_cons_succ, List.getElem?_cons_zero]; rfl
  · exact fun _ _ _ h => h
  · rfl
  · (intro w hSw; (try dsimp only at hSw); go_simp) <;> with_reducible rfl
  try simp only [Act.put, List.setIfInBounds_toArray, List.set_cons_zero, List.set_cons_succ]
  refine wpAnyT_take 5 (oi := ?_) (v := ?_) ?_ (by kernel_rfl) (by kernel_rfl) (by kernel_rfl) (by kernel_rfl) (by kernel_rfl) ?_ (Or.inl ⟨?_, ?_⟩) (by assumption) ?_
  rotate_left 2
  · simp only [List.getElem?_toArray, List.getElem?_cons_succ, List.getElem?_cons_zero]; rfl
  · exact fun _ _ _ h => h
  · rfl
  · (intro w hSw; (try dsimp only at hSw); go_simp) <;> with_reducible rfl
  try simp only [Act.put, List.setIfInBounds_toArray, List.set_cons_zero, List.set_cons_succ]
  refine wpAnyT_take 6 (oi := ?_) (v := ?_) ?_ (by kernel_rfl) (by kernel_rfl) (by kernel_rfl) (by kernel_rfl) (by kernel_rfl) ?_ (Or.inl ⟨?_, ?_⟩) (by assumption) ?_
  rotate_left 2
  · simp only [List.getElem?_toArray, List.getElem?_cons_succ, List.getElem?_cons_zero]; rfl
  · exact fun _ _ _ h => h
  · rfl
  · (intro w hSw; (try dsimp only at hSw); go_simp) <;> with_reducible rfl
  try simp only [Act.put, List.setIfInBounds_toArray, List.set_cons_zero, List.set_cons_succ]
  refine wpAnyT_take 7 (oi := ?_) (v := ?_) ?_ (by kernel_rfl) (by kernel_rfl) (by kernel_rfl) (by kernel_rfl) (by kernel_rfl) ?_ (Or.inl ⟨?_, ?_⟩) (by assumption) ?_
  rotate_left 2
  · simp only [List.getElem?_toArray, List.getElem?_cons_succ, List.getElem?_cons_zero]; rfl
  · exact fun _ _ _ h => h
  · rfl
  · (intro w hSw; (try dsimp only at hSw); go_simp) <;> with_reducible rfl
  try simp only [Act.put, List.setIfInBounds_toArray, List.set_cons_zero, List.set_cons_succ]
  refine wpAnyT_take 8 (oi := ?_) (v := ?_) ?_ (by kernel_rfl) (by kernel_rfl) (by kernel_rfl) (by kernel_rfl) (by kernel_rfl) ?_ (Or.inl ⟨?_, ?_⟩) (by assumption) ?_
  rotate_left 2
  · simp only [List.getElem?_toArray, List.getElem?_cons_succ, List.getElem?_cons_zero]; rfl
  · exact fun _ _ _ h => h
  · rfl
  · (intro w hSw; (try dsimp only at hSw); go_simp) <;> with_reducible rfl
  try simp only [Act.put, List.setIfInBounds_toArray, List.set_cons_zero, List.set_cons_succ]
  refine wpAnyT_take 9 (oi := ?_) (v := ?_) ?_ (by kernel_rfl) (by kernel_rfl) (by kernel_rfl) (by kernel_rfl) (by kernel_rfl) ?_ (Or.inl ⟨?_, ?_⟩) (by assumption) ?_
  rotate_left 2
  · simp only [List.getElem?_toArray, List.getElem?_cons_succ, List.getElem?_cons_zero]; rfl
  · exact fun _ _ _ h => h
  · rfl
  · (intro w hSw; (try dsimp only at hSw); go_simp) <;> with_reducible rfl
  try simp only [Act.put, List.setIfInBounds_toArray, List.set_cons_zero, List.set_cons_succ]
  refine wpAnyT_take 10 (oi := ?_) (v := ?_) ?_ (by kernel_rfl) (by kernel_rfl) (by kernel_rfl) (by kernel_rfl) (by kernel_rfl) ?_ (Or.inl ⟨?_, ?_⟩) (by assumption) ?_
  rotate_left 2
  · simp only [List.getElem?_toArray, List.getElem?_cons_succ, List.getElem?_cons_zero]; rfl
  · exact fun _ _ _ h => h
  · rfl
  · (intro w hSw; (try dsimp only at hSw); go_simp) <;> with_reducible rfl
  try simp only [Act.put, List.setIfInBounds_toArray, List.set_cons_zero, List.set_cons_succ]
  refine wpAnyT_take 11 (oi := ?_) (v := ?_) ?_ (by kernel_rfl) (by kernel_rfl) (by kernel_rfl) (by kernel_rfl) (by kernel_rfl) ?_ (Or.inl ⟨?_, ?_⟩) (by assumption) ?_
  rotate_left 2
  · simp only [List.getElem?_toArray, List.getElem?_cons_succ, List.getElem?_cons_zero]; rfl
  · exact fun _ _ _ h => h
  · rfl
  · (intro w hSw; (try dsimp only at hSw); go_simp) <;> with_reducible rfl
  try simp only [Act.put, List.setIfInBounds_toArray, List.set_cons_zero, List.set_cons_succ]
  refine wpAnyT_take 14 (oi := ?_) (v := ?_) ?_ (by kernel_rfl) (by kernel_rfl) (by kernel_rfl) (by kernel_rfl) (by kernel_rfl) ?_ (Or.inl ⟨?_, ?_⟩) (by assumption) ?_
  rotate_left 2
  · simp only [List.getElem?_toArray, List.getElem?_cons_succ, List.getElem?_cons_zero]; rfl
  · exact fun _ _ _ h => h
  · rfl
  · (intro w hSw; (try dsimp only at hSw); go_simp) <;> with_reducible rfl
  try simp only [Act.put, List.setIfInBounds_toArray, List.set_cons_zero, List.set_cons_succ]
  refine wpAnyT_take 15 (oi := ?_) (v := ?_) ?_ (by kernel_rfl) (by kernel_rfl) (by kernel_rfl) (by kernel_rfl) (by kernel_rfl) ?_ (Or.inl ⟨?_, ?_⟩) (by assumption) ?_
  rotate_left 2
  · simp only [List.getElem?_toArray, List.getElem?_cons_succ, List.getElem?_cons_zero]; rfl
  · exact fun _ _ _ h => h
  · rfl
  · (intro w hSw; (try dsimp only at hSw); go_simp) <;> with_reducible rfl
  try simp only [Act.put, List.setIfInBounds_toArray, List.set_cons_zero, List.set_cons_succ]
  refine wpAnyT_step 12 (o := ?_) (by kernel_rfl) ?_ (fun K hK => ?_)
  rotate_left 1
  · simp only [List.getElem?_toArray, List.getElem?_cons_succ, List.getElem?_cons_zero]; rfl
  go_simp
  refine hK.out _ _ (fun _ => ⟨(hbW.cell l1).trans cd, (hbW.cell l2).trans cf, (hbW.cell l3).trans cn, (hbW.cell hlt).trans c1'⟩) (fun hH => ?_)
  clear hHeld; have hHeld := hH (by decide); clear hH hK K
  try simp only [Act.put, List.setIfInBounds_toArray, List.set_cons_zero, List.set_cons_succ]
  refine wpAnyT_step 13 (o := ?_) (by kernel_rfl) ?_ (fun K hK => ?_)
  rotate_left 1
  · simp only [List.getElem?_toArray, List.getElem?_cons_succ, List.getElem?_cons_zero]; rfl
  rw [if_pos (by rfl)]
  refine wp_append_fresh _ _ 59 rfl B 141 i0 .nilIface 1 16 Tryz.underlying59 hi hz0 hz1 hz2 rfl (by decide) lv (d.file f).l.length us rfl hownW ⟨w.heap.size, 0, none⟩ 1 1 [.iface 126 (.agg #[.int .i64 n])] rfl rfl hnews (by simp [Value.oneCell']) (by unfold maxLen; omega) (by omega) (by simp; omega) ?_
  intro v' w1 hown' hgrow hfr
  have hDw := hgrow.block D (by simp; omega) (fun e => by have := HH.out.2.1 D e.symm; have := h.role; omega)
  have d1 : w1.cell? ⟨D, f * 2 + 1, none⟩ = some lv := (World.cell?_of_block hDw).trans ((World.cell?_of_block (hbW.block D hlt)).trans c1')
  have z1 : w1.frozen? ⟨D, f * 2 + 1, none⟩ = false := (World.frozen?_of_block hDw).trans (hdW.fz _)
  have e1 : w1.cell? ⟨bd, 0, none⟩ = some (.pointer (some ⟨D, 0, none⟩)) := (World.cell?_of_block (hgrow.block bd (by simp; omega) (fun e => by have := HH.out.2.1 bd e.symm; have := HR.out.1; omega))).trans ((hbW.cell l1).trans cd)
  have e2 : w1.cell? ⟨bf, 0, none⟩ = some (.int .i64 f) := (World.cell?_of_block (hgrow.block bf (by simp; omega) (fun e => by have := HH.out.2.1 bf e.symm; have := HR.out.2.1; omega))).trans ((hbW.cell l2).trans cf)
  have e3 : w1.cell? ⟨bn, 0, none⟩ = some (.int .i64 n) := (World.cell?_of_block (hgrow.block bn (by simp; omega) (fun e => by have := HH.out.2.1 bn e.symm; have := HR.out.2.2; omega))).trans ((hbW.cell l3).trans cn)
  obtain ⟨p, cap, rfl⟩ := own_shape hown'
  refine hK.out _ _ (fun _ => ⟨e1, e2, e3, d1⟩) (fun hH => ?_)
  clear hHeld; have hHeld := hH (by decide); clear hH hK K
  try simp only [Act.put, List.setIfInBounds_toArray, List.set_cons_zero, List.set_cons_succ]
  refine wpAnyT_take 16 (oi := ?_) (v := ?_) ?_ (by kernel_rfl) (by kernel_rfl) (by kernel_rfl) (by kernel_rfl) (by kernel_rfl) ?_ (Or.inl ⟨?_, ?_⟩) (by assumption) ?_
  rotate_left 2
  · simp only [List.getElem?_toArray, List.getElem?_cons_succ, List.getElem?_cons_zero]; rfl
  · exact fun _ _ _ h => h
  · rfl
  · (intro w hSw; (try dsimp only at hSw); go_simp) <;> with_reducible rfl
  try simp only [Act.put, List.setIfInBounds_toArray, List.set_cons_zero, List.set_cons_succ]
  refine wpAnyT_take 17 (oi := ?_) (v := ?_) ?_ (by kernel_rfl) (by kernel_rfl) (by kernel_rfl) (by kernel_rfl) (by kernel_rfl) ?_ (Or.inl ⟨?_, ?_⟩) (by assumption) ?_
  rotate_left 2
  · simp only [List.getElem?_toArray, List.getElem?_cons_succ, List.getElem?_cons_zero]; rfl
  · exact fun _ _ _ h => h
  · rfl
  · (intro w hSw; (try dsimp only at hSw); go_simp) <;> with_reducible rfl
  try simp only [Act.put, List.setIfInBounds_toArray, List.set_cons_zero, List.set_cons_succ]
  refine wpAnyT_step 18 (o := ?_) (by kernel_rfl) ?_ (fun K hK => ?_)
  rotate_left 1
  · simp only [List.getElem?_toArray, List.getElem?_cons_succ, List.getElem?_cons_zero]; rfl
  go_simp
  refine hK.out _ _ (fun hx => absurd hx (by decide)) (fun _ => ?_)
  clear hHeld hK K
  refine wpAnyT_done (by kernel_rfl) ?_ _
  try simp only [Act.put, List.setIfInBounds_toArray, List.set_cons_zero, List.set_cons_succ]
  go_end0
  have hs1 : RdR _ ρ sv (d.file f).s := (HH.out.1).other hbW.size fun g hgl _ => hbW.block g hgl
  have hu1 : ChgR (w.drew.alloc (.cells #[.iface 126 (.agg #[.int .i64 n])] 141)) ρ (.iface 126 (.agg #[.int .i64 n])) (.ct n) := ⟨rfl, hn⟩
  obtain ⟨ρ', r1, r2⟩ := hdW.appended (c := .ct n) hf ((hbW.cell hlt).trans c0) ((hbW.cell hlt).trans c1) hs1 HH.out.2.1 (fun j hj => (HH.out.2.2 j hj).imp fun u hu => ⟨hu.1, hu.2.other hbW.size fun g hgl _ => hbW.block g hgl⟩) hus hu1 hown' hgrow (fun g hg => (hfr g hg).imp id id)
  rw [Nat.mul_comm 2 f] at r1 r2
  exact ⟨rfl, ρ', r1, (Mv.ofBelow ρ hbW).trans r2⟩
end Go.Proofs.YtfohemgfiidokaaGreatDoor
namespace Go.Proofs.YtfohemgfiidokaaGreatDoor
open Go.RowKit Go.Sort

set_option maxRecDepth 100000 in
set_option maxHeartbeats 1600000 in
theorem write1_c {w : World} {ρ : Nat → Nat} {B D f : Nat} {d : Dk} (bd bf bn : Nat) (cv : Value) (b : List Int) (h : DiskAt w ρ B D d) (hf : f < 2) (hlen : (d.file f).l.length ≤ 1000000000) (hv : RdB w cv b) (hbl : b.length ≤ 1000000000)
    (cd : w.cell? ⟨bd, 0, none⟩ = some (.pointer (some ⟨D, 0, none⟩))) (cf : w.cell? ⟨bf, 0, none⟩ = some (.int .i64 f)) (cn : w.cell? ⟨bn, 0, none⟩ = some cv) (rd : ρ bd = 0) (rf : ρ bf = 0) (rn : ρ bn = 0) :
    Calls Tryz.prog 82 #[.pointer (some ⟨bd, 0, none⟩), .pointer (some ⟨bf, 0, none⟩), .pointer (some ⟨bn, 0, none⟩)] w fun e w' => e = .returned undef ∧ (∃ ρ', DiskAt w' ρ' B D (d.setFile f ⟨(d.file f).s, (d.file f).l ++ [.wr b]⟩) ∧ Mv ρ ρ' w w') := by
  obtain ⟨i0, hi, hz0, hz1, hz2⟩ := info_parts Tryz.info141
  obtain ⟨pv, lcv, ccv, rfl⟩ : ∃ p n c, cv = .slice p n c := by
    rcases hv with ⟨h1, -⟩ | ⟨a, g, o, cap, h1, -⟩
    · exact ⟨_, _, _, h1⟩
    · exact ⟨_, _, _, h1⟩
  have hlt := h.lt
  have hB := h.base
  obtain ⟨sv, lv, c0, c1, hs, us, hown, hrole, hch⟩ := h.file f hf
  have hus : us.length = (d.file f).l.length := by have := hown.1; omega
  have f0 : (0 : Int) ≤ f := by omega
  have f1 : (f : Int) < 2 := by omega
  have c1' : w.cell? ⟨D, f * 2 + 1, none⟩ = some lv := by rw [Nat.mul_comm]; exact c1
  have kc := clone_c (.slice pv lcv ccv) b w.drew (hv.keep (Below.refl _ w).drew) hbl
  have HR := Lib.hid (And.intro rd (And.intro rf rn))
  have HH := Lib.hid (And.intro hs (And.intro hrole hch))
  clear hs hrole hch rd rf rn hv
  have l1 : bd < w.heap.size := block_lt_of_cell cd
  have l2 : bf < w.heap.size := block_lt_of_cell cf
  have l3 : bn < w.heap.size := block_lt_of_cell cn
  go_enter Tryz.func82, Tryz.ntmps82
  refine wp_region_last (S := fun w' => w'.cell? ⟨bd, 0, none⟩ = some (.pointer (some ⟨D, 0, none⟩)) ∧ w'.cell? ⟨bf, 0, none⟩ = some (.int .i64 f) ∧ w'.cell? ⟨bn, 0, none⟩ = some (.slice pv lcv ccv) ∧ w'.cell? ⟨D, f * 2 + 1, none⟩ = some lv) 19 (by kernel_rfl) ⟨cd, cf, cn, c1'⟩ (fun hHeld => ?_)
  refine wpAnyT_take 0 (oi := ?_) (v := ?_) ?_ (by kernel_rfl) (by kernel_rfl) (by kernel_rfl) (by kernel_rfl) (by kernel_rfl) ?_ (Or.inl ⟨?_, ?_⟩) (by assumption) ?_
  rotate_left 2
  · simp only [List.getElem?_toArray, List.getElem?_cons_zero]; rfl
  · exact fun _ _ _ h => h
  · rfl
  · (intro w hSw; (try dsimp only at hSw); go_simp) <;> with_reducible rfl
  try simp only [Act.put, List.setIfInBounds_toArray, List.set_cons_zero, List.set_cons_succ]
  refine wpAnyT_take 1 (oi := ?_) (v := ?_) ?_ (by kernel_rfl) (by kernel_rfl) (by kernel_rfl) (by kernel_rfl) (by kernel_rfl) ?_ (Or.inl ⟨?_, ?_⟩) (by assumption) ?_
  rotate_left 2
  · simp only [List.getElem?_toArray, List.getElem?_cons_succ, List.getElem?_cons_zero]; rfl
  · exact fun _ _ _ h => h
  · rfl
  · (intro w hSw; (try dsimp only at hSw); go_simp) <;> with_reducible rfl
  try simp only [Act.put, List.setIfInBounds_toArray, List.set_cons_zero, List.set_cons_succ]
  refine wpAnyT_take 2 (oi := ?_) (v := ?_) ?_ (by kernel_rfl) (by kernel_rfl) (by kernel_rfl) (by kernel_rfl) (by kernel_rfl) ?_ (Or.inl ⟨?_, ?_⟩) (by assumption) ?_
  rotate_left 2
  · simp only [List.getElem?_toArray, List.getElem?_cons_succ, List.getElem?_cons_zero]; rfl
  · exact fun _ _ _ h => h
  · rfl
  · (intro w hSw; (try dsimp only at hSw); go_simp) <;> with_reducible rfl
  try simp only [Act.put, List.setIfInBounds_toArray, List.set_cons_zero, List.set_cons_succ]
  refine wpAnyT_take 3 (oi := ?_) (v := ?_) ?_ (by kernel_rfl) (by kernel_rfl) (by kernel_rfl) (by kernel_rfl) (by kernel_rfl) ?_ (Or.inl ⟨?_, ?_⟩) (by assumption) ?_
  rotate_left 2
  · simp only [List.getElem?_toArray, List.getElem?_cons_succ, List.getElem?_cons_zero]; rfl
  · exact fun _ _ _ h => h
  · rfl
  · (intro w hSw; (try dsimp only at hSw); go_simp) <;> with_reducible rfl
  try simp only [Act.put, List.setIfInBounds_toArray, List.set_cons_zero, List.set_cons_succ]
  refine wpAnyT_take 4 (oi := ?_) (v := ?_) ?_ (by kernel_rfl) (by kernel_rfl) (by kernel_rfl) (by kernel_rfl) (by kernel_rfl) ?_ (Or.inl ⟨?_, ?_⟩) (by assumption) ?_
  rotate_left 2
  · simp only [List.getElem?_toArray, List.getElem?_cons_succ, List.getElem?_cons_zero]; rfl
  · exact fun _ _ _ h => h
  · rfl
  · (intro w hSw; (try dsimp only at hSw); go_simp) <;> with_reducible rfl
  try simp only [Act.put, List.setIfInBounds_toArray, List.set_cons_zero, List.set_cons_succ]
  refine wpAnyT_take 5 (oi := ?_) (v := ?_) ?_ (by kernel_rfl) (by kernel_rfl) (by kernel_rfl) (by kernel_rfl) (by kernel_rfl) ?_ (Or.inl ⟨?_, ?_⟩) (by assumption) ?_
  rotate_left 2
  · simp only [List.getElem?_toArray, List.getElem?_cons_succ, List.getElem?_cons_zero]; rfl
  · exact fun _ _ _ h => h
  · rfl
  · (intro w hSw; (try dsimp only at hSw); go_simp) <;> with_reducible rfl
  try simp only [Act.put, List.setIfInBounds_toArray, List.set_cons_zero, List.set_cons_succ]
  refine wpAnyT_take 6 (oi := ?_) (v := ?_) ?_ (by kernel_rfl) (by kernel_rfl) (by kernel_rfl) (by kernel_rfl) (by kernel_rfl) ?_ (Or.inl ⟨?_, ?_⟩) (by assumption) ?_
  rotate_left 2
  · simp only [List.getElem?_toArray, List.getElem?_cons_succ, List.getElem?_cons_zero]; rfl
  · exact fun _ _ _ h => h
  · rfl
  · (intro w hSw; (try dsimp only at hSw); go_simp) <;> with_reducible rfl
  try simp only [Act.put, List.setIfInBounds_toArray, List.set_cons_zero, List.set_cons_succ]
  refine wpAnyT_take 7 (oi := ?_) (v := ?_) ?_ (by kernel_rfl) (by kernel_rfl) (by kernel_rfl) (by kernel_rfl) (by kernel_rfl) ?_ (Or.inl ⟨?_, ?_⟩) (by assumption) ?_
  rotate_left 2
  · simp only [List.getElem?_toArray, List.getElem?_cons_succ, List.getElem?_cons_zero]; rfl
  · exact fun _ _ _ h => h
  · rfl
  · (intro w hSw; (try dsimp only at hSw); go_simp) <;> with_reducible rfl
  try simp only [Act.put, List.setIfInBounds_toArray, List.set_cons_zero, List.set_cons_succ]
  refine wpAnyT_take 8 (oi := ?_) (v := ?_) ?_ (by kernel_rfl) (by kernel_rfl) (by kernel_rfl) (by kernel_rfl) (by kernel_rfl) ?_ (Or.inl ⟨?_, ?_⟩) (by assumption) ?_
  rotate_left 2
  · simp only [List.getElem?_toArray, List.getElem?_cons_succ, List.getElem?_cons_zero]; rfl
  · exact fun _ _ _ h => h
  · rfl
  · (intro w hSw; (try dsimp only at hSw); go_simp) <;> with_reducible rfl
  try simp only [Act.put, List.setIfInBounds_toArray, List.set_cons_zero, List.set_cons_succ]
  refine wpAnyT_take 9 (oi := ?_) (v := ?_) ?_ (by kernel_rfl) (by kernel_rfl) (by kernel_rfl) (by kernel_rfl) (by kernel_rfl) ?_ (Or.inl ⟨?_, ?_⟩) (by assumption) ?_
  rotate_left 2
  · simp only [List.getElem?_toArray, List.getElem?_cons_succ, List.getElem?_cons_zero]; rfl
  · exact fun _ _ _ h => h
  · rfl
  · (intro w hSw; (try dsimp only at hSw); go_simp) <;> with_reducible rfl
  try simp only [Act.put, List.setIfInBounds_toArray, List.set_cons_zero, List.set_cons_succ]
  refine wpAnyT_take 15 (oi := ?_) (v := ?_) ?_ (by kernel_rfl) (by kernel_rfl) (by kernel_rfl) (by kernel_rfl) (by kernel_rfl) ?_ (Or.inl ⟨?_, ?_⟩) (by assumption) ?_
  rotate_left 2
  · simp only [List.getElem?_toArray, List.getElem?_cons_succ, List.getElem?_cons_zero]; rfl
  · exact fun _ _ _ h => h
  · rfl
  · (intro w hSw; (try dsimp only at hSw); go_simp) <;> with_reducible rfl
  try simp only [Act.put, List.setIfInBounds_toArray, List.set_cons_zero, List.set_cons_succ]
  refine wpAnyT_take 16 (oi := ?_) (v := ?_) ?_ (by kernel_rfl) (by kernel_rfl) (by kernel_rfl) (by kernel_rfl) (by kernel_rfl) ?_ (Or.inl ⟨?_, ?_⟩) (by assumption) ?_
  rotate_left 2
  · simp only [List.getElem?_toArray, List.getElem?_cons_succ, List.getElem?_cons_zero]; rfl
  · exact fun _ _ _ h => h
  · rfl
  · (intro w hSw; (try dsimp only at hSw); go_simp) <;> with_reducible rfl
  try simp only [Act.put, List.setIfInBounds_toArray, List.set_cons_zero, List.set_cons_succ]
  refine wpAnyT_step 10 (o := ?_) (by kernel_rfl) ?_ (fun K hK => ?_)
  rotate_left 1
  · simp only [List.getElem?_toArray, List.getElem?_cons_succ, List.getElem?_cons_zero]; rfl
  go_simp
  (go_at_call 83; with_reducible refine kc.mono ?_; rintro e w2 ⟨v2, rfl, hr, hb2⟩; obtain ⟨pr, capr, rfl⟩ := hr.shape)
  go_wp2_with fail
  have hb2' : Below w.heap.size w w2 := bel_call (Below.refl _ w).drew hb2
  refine hK.out _ _ (fun _ => ⟨(hb2'.cell l1).trans cd, (hb2'.cell l2).trans cf, (hb2'.cell l3).trans cn, (hb2'.cell hlt).trans c1'⟩) (fun hH => ?_)
  clear hHeld; have hHeld := hH (by decide); clear hH hK K
  try simp only [Act.put, List.setIfInBounds_toArray, List.set_cons_zero, List.set_cons_succ]
  clear kc
  refine wpAnyT_take 11 (oi := ?_) (v := ?_) ?_ (by kernel_rfl) (by kernel_rfl) (by kernel_rfl) (by kernel_rfl) (by kernel_rfl) ?_ (Or.inl ⟨?_, ?_⟩) (by assumption) ?_
  rotate_left 2
  · simp only [List.getElem?_toArray, List.getElem?_cons_succ, List.getElem?_cons_zero]; rfl
  · exact fun _ _ _ h => h
  · rfl
  · (intro w hSw; (try dsimp only at hSw); go_simp) <;> with_reducible rfl
  try simp only [Act.put, List.setIfInBounds_toArray, List.set_cons_zero, List.set_cons_succ]
  refine wpAnyT_take 12 (oi := ?_) (v := ?_) ?_ (by kernel_rfl) (by kernel_rfl) (by kernel_rfl) (by kernel_rfl) (by kernel_rfl) ?_ (Or.inl ⟨?_, ?_⟩) (by assumption) ?_
  rotate_left 2
  · simp only [List.getElem?_toArray, List.getElem?_cons_succ, List.getElem?_cons_zero]; rfl
  · exact fun _ _ _ h => h
  · rfl
  · (intro w hSw; (try dsimp only at hSw); go_simp) <;> with_reducible rfl
  try simp only [Act.put, List.setIfInBounds_toArray, List.set_cons_zero, List.set_cons_succ]
  refine wpAnyT_step 13 (o := ?_) (by kernel_rfl) ?_ (fun K hK => ?_)
  rotate_left 1
  · simp only [List.getElem?_toArray, List.getElem?_cons_succ, List.getElem?_cons_zero]; rfl
  have hsz2 := hb2'.size
  have hbW : Below w.heap.size w (w2.alloc (.cells #[.iface 122 (.agg #[.slice pr b.length capr])] 141)) := bel_alloc hb2' _
  have hdW := h.keep hbW
  have hownW := ownsRow_keep hown hbW
  have hnews : ∀ j u, ([.iface 122 (.agg #[.slice pr b.length capr])] : List Value)[j]? = some u → (w2.alloc (.cells #[.iface 122 (.agg #[.slice pr b.length capr])] 141)).cell? ((⟨w2.heap.size, 0, none⟩ : Addr).add j) = some u := fun j u hu => by
    rcases j with _ | j
    · simp at hu; subst hu; simp [go_sem]
    · simp at hu
  go_simp
  refine hK.out _ _ (fun _ => ⟨(hbW.cell l1).trans cd, (hbW.cell l2).trans cf, (hbW.cell l3).trans cn, (hbW.cell hlt).trans c1'⟩) (fun hH => ?_)
  clear hHeld; have hHeld := hH (by decide); clear hH hK K
  try simp only [Act.put, List.setIfInBounds_toArray, List.set_cons_zero, List.set_cons_succ]
  refine wpAnyT_step 14 (o := ?_) (by kernel_rfl) ?_ (fun K hK => ?_)
  rotate_left 1
  · simp only [List.getElem?_toArray, List.getElem?_cons_succ, List.getElem?_cons_zero]; rfl
  rw [if_pos (by rfl)]
  refine wp_append_fresh _ _ 59 rfl B 141 i0 .nilIface 1 16 Tryz.underlying59 hi hz0 hz1 hz2 rfl (by decide) lv (d.file f).l.length us rfl hownW ⟨w2.heap.size, 0, none⟩ 1 1 [.iface 122 (.agg #[.slice pr b.length capr])] rfl rfl hnews (by simp [Value.oneCell']) (by unfold maxLen; omega) (by omega) (by simp; omega) ?_
  intro v' w1 hown' hgrow hfr
  have hDw := hgrow.block D (by simp; omega) (fun e => by have := HH.out.2.1 D e.symm; have := h.role; omega)
  have d1 : w1.cell? ⟨D, f * 2 + 1, none⟩ = some lv := (World.cell?_of_block hDw).trans ((World.cell?_of_block (hbW.block D hlt)).trans c1')
  have z1 : w1.frozen? ⟨D, f * 2 + 1, none⟩ = false := (World.frozen?_of_block hDw).trans (hdW.fz _)
  have e1 : w1.cell? ⟨bd, 0, none⟩ = some (.pointer (some ⟨D, 0, none⟩)) := (World.cell?_of_block (hgrow.block bd (by simp; omega) (fun e => by have := HH.out.2.1 bd e.symm; have := HR.out.1; omega))).trans ((hbW.cell l1).trans cd)
  have e2 : w1.cell? ⟨bf, 0, none⟩ = some (.int .i64 f) := (World.cell?_of_block (hgrow.block bf (by simp; omega) (fun e => by have := HH.out.2.1 bf e.symm; have := HR.out.2.1; omega))).trans ((hbW.cell l2).trans cf)
  have e3 : w1.cell? ⟨bn, 0, none⟩ = some (.slice pv lcv ccv) := (World.cell?_of_block (hgrow.block bn (by simp; omega) (fun e => by have := HH.out.2.1 bn e.symm; have := HR.out.2.2; omega))).trans ((hbW.cell l3).trans cn)
  obtain ⟨p, cap, rfl⟩ := own_shape hown'
  refine hK.out _ _ (fun _ => ⟨e1, e2, e3, d1⟩) (fun hH => ?_)
  clear hHeld; have hHeld := hH (by decide); clear hH hK K
  try simp only [Act.put, List.setIfInBounds_toArray, List.set_cons_zero, List.set_cons_succ]
  refine wpAnyT_take 17 (oi := ?_) (v := ?_) ?_ (by kernel_rfl) (by kernel_rfl) (by kernel_rfl) (by kernel_rfl) (by kernel_rfl) ?_ (Or.inl ⟨?_, ?_⟩) (by assumption) ?_
  rotate_left 2
  · simp only [List.getElem?_toArray, List.getElem?_cons_succ, List.getElem?_cons_zero]; rfl
  · exact fun _ _ _ h => h
  · rfl
  · (intro w hSw; (try dsimp only at hSw); go_simp) <;> with_reducible rfl
  try simp only [Act.put, List.setIfInBounds_toArray, List.set_cons_zero, List.set_cons_succ]
  refine wpAnyT_take 18 (oi := ?_) (v := ?_) ?_ (by kernel_rfl) (by kernel_rfl) (by kernel_rfl) (by kernel_rfl) (by kernel_rfl) ?_ (Or.inl ⟨?_, ?_⟩) (by assumption) ?_
  rotate_left 2
  · simp only [List.getElem?_toArray, List.getElem?_cons_succ, List.getElem?_cons_zero]; rfl
  · exact fun _ _ _ h => h
  · rfl
  · (intro w hSw; (try dsimp only at hSw); go_simp) <;> with_reducible rfl
  try simp only [Act.put, List.setIfInBounds_toArray, List.set_cons_zero, List.set_cons_succ]
  refine wpAnyT_step 19 (o := ?_) (by kernel_rfl) ?_ (fun K hK => ?_)
  rotate_left 1
  · simp only [List.getElem?_toArray, List.getElem?_cons_succ, List.getElem?_cons_zero]; rfl
  go_simp
  refine hK.out _ _ (fun hx => absurd hx (by decide)) (fun _ => ?_)
  clear hHeld hK K
  refine wpAnyT_done (by kernel_rfl) ?_ _
  try simp only [Act.put, List.setIfInBounds_toArray, List.set_cons_zero, List.set_cons_succ]
  go_end0
  have hs1 : RdR (w2.alloc (.cells #[.iface 122 (.agg #[.slice pr b.length capr])] 141)) ρ sv (d.file f).s := (HH.out.1).other hbW.size fun g hgl _ => hbW.block g hgl
  have hr2 : RowO (w2.alloc (.cells #[.iface 122 (.agg #[.slice pr b.length capr])] 141)) w.drew.heap.size (.slice pr b.length capr) b := hr.keep (bel_alloc (Below.refl _ _) _)
  have hu1 : ChgR (w2.alloc (.cells #[.iface 122 (.agg #[.slice pr b.length capr])] 141)) ρ (.iface 122 (.agg #[.slice pr b.length capr])) (.wr b) := ⟨.slice pr b.length capr, rfl, hr2.rdr h.fresh⟩
  obtain ⟨ρ', r1, r2⟩ := hdW.appended (c := .wr b) hf ((hbW.cell hlt).trans c0) ((hbW.cell hlt).trans c1) hs1 HH.out.2.1 (fun j hj => (HH.out.2.2 j hj).imp fun u hu => ⟨hu.1, hu.2.other hbW.size fun g hgl _ => hbW.block g hgl⟩) hus hu1 hown' hgrow (fun g hg => (hfr g hg).imp id id)
  rw [Nat.mul_comm 2 f] at r1 r2
  exact ⟨rfl, ρ', r1, (Mv.ofBelow ρ hbW).trans r2⟩
end Go.Proofs.YtfohemgfiidokaaGreatDoor
namespace Go.Proofs.YtfohemgfiidokaaGreatDoor
open Go.RowKit Go.Sort

/-- the first k files settled -/
def Dk.on (d : Dk) (pk : Nat → Int) : Nat → Dk
  | 0 => d
  | k + 1 => (d.on pk k).setFile k ⟨keptF (d.file k).s (pk k) (d.file k).l, []⟩
theorem on_off (d : Dk) (pk : Nat → Int) : ∀ k, (d.on pk k).off = d.off ∧ (d.on pk k).fused = d.fused
  | 0 => ⟨rfl, rfl⟩
  | k + 1 => by
    have := on_off d pk k
    rcases k with _ | k <;> exact this

set_option maxRecDepth 100000 in
set_option maxHeartbeats 1600000 in
theorem on_at {w : World} {ρ : Nat → Nat} {B D : Nat} {d : Dk} (p : Option Addr) (len cap : Nat) (pk : Nat → Int) (h : DiskAt w ρ B D d) (h0 : Small d.f0) (h1 : Small d.f1) (hoff : d.off = true)
    (hp : ∀ i, i < 2 → i < len → ∃ g o, p = some ⟨g, o, none⟩ ∧ w.cell? ⟨g, o + i, none⟩ = some (.int .i64 (pk i)) ∧ ρ g = 0) (hp0 : ∀ i, i < 2 → len ≤ i → pk i = 0)
    (hb0 : ∀ i, i < 2 → -9223372036854775808 ≤ pk i) (hb1 : ∀ i, i < 2 → pk i ≤ 9223372036854775807) :
    Calls Tryz.prog 18 #[.pointer (some ⟨D, 0, none⟩), .slice p len cap] w fun e w' => e = .returned (.int .i64 0) ∧ DiskAt w' ρ B D { d.on pk 2 with off := false, fused := false } ∧ Mv ρ ρ w w' := by
  have c5 : w.cell? ⟨D, 5, none⟩ = some (.bool true) := by rw [← hoff]; exact h.off
  have HB := Lib.hid hb0; have HB1 := Lib.hid hb1; have HP := Lib.hid hp; have HP0 := Lib.hid hp0
  clear hb0 hb1 hp hp0 hoff
  go_enter Tryz.func18, Tryz.ntmps18
  go_upto_region 6 with fail
  go_loopw [16] (fun i wr => ∃ k : Nat, k ≤ 2 ∧ i = .int .i64 k ∧ DiskAt wr ρ B D (d.on pk k) ∧ Mv ρ ρ w wr) (fun i _ => 2 - (intOf i).toNat)
  case atStart => exact ⟨0, by omega, rfl, h, Mv.refl _ _⟩
  case round =>
    obtain ⟨k, hk, rfl, hd, hb⟩ := hrel
    by_cases hlt : k < 2
    · have hk0 : (0 : Int) ≤ k := by omega
      have hk2 : (k : Int) < 2 := by omega
      have hfile : (d.on pk k).file k = d.file k := by rcases k with _ | _ | k <;> first | rfl | omega
      have hsm : Small (d.file k) := by rcases k with _ | k; exact h0; exact h1
      have ks := settle_at (hd.file k hlt) (by rw [hfile]; exact hsm) hd.fz (pk k) (HB.out k hlt) (HB1.out k hlt)
      rw [Nat.mul_comm 2 k, hfile] at ks
      by_cases hl : k < len
      · obtain ⟨g, o, rfl, hc, hg⟩ := HP.out k hlt hl
        have hc' : wr.cell? ⟨g, o + k, none⟩ = some (.int .i64 (pk k)) := (World.cell?_of_block (hb.block g (block_lt_of_cell hc) (.inl hg))).trans hc
        have hkl : (k : Int) < len := by omega
        go_wp2_with (go_at_call 46; with_reducible refine ks.mono ?_; rintro e w1 ⟨rfl, hS⟩)
        go_roundw
        case rel =>
          obtain ⟨r1, r2⟩ := hd.settled hlt hS
          exact ⟨k + 1, by omega, by go_num, r1, hb.trans r2⟩
        case measure => simp [intOf]; omega
      · have hkl : ¬ (k : Int) < len := by omega
        have hz := HP0.out k hlt (by omega)
        rw [hz] at ks
        go_wp2_with (go_at_call 46; with_reducible refine ks.mono ?_; rintro e w1 ⟨rfl, hS⟩)
        go_roundw
        case rel =>
          obtain ⟨r1, r2⟩ := hd.settled hlt hS
          have e2 : (d.on pk k).setFile k ⟨keptF (d.file k).s 0 (d.file k).l, []⟩ = d.on pk (k + 1) := by show _ = (d.on pk k).setFile k ⟨keptF (d.file k).s (pk k) (d.file k).l, []⟩; rw [hz]
          rw [e2] at r1
          exact ⟨k + 1, by omega, by go_num, r1, hb.trans r2⟩
        case measure => simp [intOf]; omega
    · have hk2 : k = 2 := by omega
      subst hk2
      have d5 := hd.off
      have z5 := hd.fz 5
      have d6 := hd.fused
      have z6 := hd.fz 6
      go_wp2
      go_ret
      exact ⟨rfl, (hd.setOff false).setFused false, (hb.set h.role _ _).set h.role _ _⟩
end Go.Proofs.YtfohemgfiidokaaGreatDoor
namespace Go.Proofs.YtfohemgfiidokaaGreatDoor
open Go.RowKit Go.Sort

set_option maxRecDepth 100000 in
theorem sync_burn {w : World} {ρ : Nat → Nat} {B D : Nat} {d : Dk} (h : DiskAt w ρ B D d) (f : Nat) (hf : f < 2) (hoff : d.off = false) (hfu : d.fused = true) (hl : d.left = 0) :
    Calls Tryz.prog 35 #[.pointer (some ⟨D, 0, none⟩), .int .i64 f] w fun e w' => e = .returned (.int .i64 8) ∧ DiskAt w' ρ B D { d with off := true } ∧ Mv ρ ρ w w' := by
  have hlt := h.lt
  have hB := h.base
  have hmf : ∀ (fn : Fn) (first cap : Array Value) (w : World), (Instr.makeFunc fn first cap).run Tryz.prog w = .ok (.func fn first cap) w := fun _ _ _ _ => rfl
  generalize hW : (w.alloc (.cells #[.pointer (some ⟨D, 0, none⟩)] 26)).alloc (.cells #[.int .i64 f] 3) = W
  have hbW : Below w.heap.size w W := by rw [← hW]; exact bel_alloc (bel_alloc (Below.refl _ _) _) _
  have cd : W.cell? ⟨w.heap.size, 0, none⟩ = some (.pointer (some ⟨D, 0, none⟩)) := by rw [← hW]; simp [go_sem]
  have cf : W.cell? ⟨w.heap.size + 1, 0, none⟩ = some (.int .i64 f) := by rw [← hW]; simp [go_sem]
  have hd := h.keep hbW
  have km := may_c D d.off f W hd.off
  rw [hoff, show mayv false f = 0 by unfold mayv; rw [if_neg (by simp), if_neg (by omega)]] at km
  have kg := goes_burns_35 hd (.pointer (some ⟨w.heap.size, 0, none⟩)) (.pointer (some ⟨w.heap.size + 1, 0, none⟩)) hfu hl
  have hd2 := hd.setOff true
  clear hoff hfu hl
  go_enter Tryz.func35, Tryz.ntmps35
  go_wp2_with (first | (go_at_call 45; with_reducible refine km.mono ?_; rintro e w1 ⟨rfl, rfl⟩) | (go_at_call 76; with_reducible refine kg.mono ?_; rintro e w2 ⟨rfl, rfl⟩))
  go_ret
  exact ⟨rfl, hd2, (Mv.ofBelow ρ hbW).set h.role 5 _⟩
set_option maxRecDepth 100000 in
theorem sync_no {w : World} {ρ : Nat → Nat} {B D : Nat} {d : Dk} (h : DiskAt w ρ B D d) (f : Int) (hm : mayv d.off f ≠ 0) :
    Calls Tryz.prog 35 #[.pointer (some ⟨D, 0, none⟩), .int .i64 f] w fun e w' => e = .returned (.int .i64 (mayv d.off f)) ∧ Below w.heap.size w w' := by
  generalize hW : (w.alloc (.cells #[.pointer (some ⟨D, 0, none⟩)] 26)).alloc (.cells #[.int .i64 f] 3) = W
  have hbW : Below w.heap.size w W := by rw [← hW]; exact bel_alloc (bel_alloc (Below.refl _ _) _) _
  have cd : W.cell? ⟨w.heap.size, 0, none⟩ = some (.pointer (some ⟨D, 0, none⟩)) := by rw [← hW]; simp [go_sem]
  have cf : W.cell? ⟨w.heap.size + 1, 0, none⟩ = some (.int .i64 f) := by rw [← hW]; simp [go_sem]
  have hd := h.keep hbW
  have km := may_c D d.off f W hd.off
  generalize mayv d.off f = z at km hm
  go_enter Tryz.func35, Tryz.ntmps35
  go_wp2_with (first | (go_at_call 45; with_reducible refine km.mono ?_; rintro e w1 ⟨rfl, rfl⟩))
  go_ret
  exact ⟨rfl, hbW⟩
theorem on_no {w : World} {ρ : Nat → Nat} {B D : Nat} {d : Dk} (h : DiskAt w ρ B D d) (v : Value) (hoff : d.off = false) :
    Calls Tryz.prog 18 #[.pointer (some ⟨D, 0, none⟩), v] w fun e w' => e = .returned (.int .i64 3) ∧ w' = w := by
  have c5 : w.cell? ⟨D, 5, none⟩ = some (.bool false) := by rw [← hoff]; exact h.off
  clear hoff
  go_enter Tryz.func18, Tryz.ntmps18
  go_wp2
  go_ret
  exact ⟨rfl, rfl⟩
end Go.Proofs.YtfohemgfiidokaaGreatDoor
namespace Go.Proofs.YtfohemgfiidokaaGreatDoor
open Go.RowKit Go.Sort


set_option maxRecDepth 100000 in
theorem cut_no {w : World} {ρ : Nat → Nat} {B D : Nat} {d : Dk} (h : DiskAt w ρ B D d) (f : Int) (n : Int) (hm : mayv d.off f ≠ 0) :
    Calls Tryz.prog 52 #[.pointer (some ⟨D, 0, none⟩), .int .i64 f, .int .i64 n] w fun e w' => e = .returned (.int .i64 (mayv d.off f)) ∧ Below w.heap.size w w' := by
  generalize hz : mayv d.off f = z at hm ⊢
  have HZ := Lib.hid hz
  clear hz
  go_enter Tryz.func52, Tryz.ntmps52
  go_upto_region 1 with fail
  refine wp_gen (fun W => Below w.heap.size w W ∧ W.cell? ⟨w.heap.size, 0, none⟩ = some (.pointer (some ⟨D, 0, none⟩)) ∧ W.cell? ⟨w.heap.size + 1, 0, none⟩ = some (.int .i64 f) ∧ W.cell? ⟨w.heap.size + 1 + 1, 0, none⟩ = some (.int .i64 n)) ⟨bel_alloc (bel_alloc (bel_alloc (Below.refl _ _) _) _) _, by simp [go_sem], by simp [go_sem], by simp [go_sem]⟩ ?_
  rintro W ⟨hbW, cd, cf, cn⟩
  have hd := h.keep hbW
  have km := may_c D d.off f W hd.off
  rw [HZ.out] at km
  go_wp2_with (go_at_call 45; with_reducible refine km.mono ?_; rintro e w1 ⟨rfl, rfl⟩)
  go_ret
  exact ⟨rfl, hbW⟩
set_option maxRecDepth 100000 in
set_option maxHeartbeats 1600000 in
theorem cut_w {w : World} {ρ : Nat → Nat} {B D : Nat} {d : Dk} (h : DiskAt w ρ B D d) (f : Nat) (hf : f < 2) (n : Int) (hn : 0 ≤ n) (hs : Small (d.file f)) (hns : n ≤ (d.file f).stands.length) (hoff : d.off = false) (r : Int) (K : World → Prop)
    (kc : ∀ W : World, Below w.heap.size w W → W.cell? ⟨w.heap.size, 0, none⟩ = some (.pointer (some ⟨D, 0, none⟩)) → W.cell? ⟨w.heap.size + 1, 0, none⟩ = some (.int .i64 f) → W.cell? ⟨w.heap.size + 1 + 1, 0, none⟩ = some (.int .i64 n) →
      Calls Tryz.prog 76 #[.pointer (some ⟨D, 0, none⟩), .func (.func 85) #[] #[.pointer (some ⟨w.heap.size, 0, none⟩), .pointer (some ⟨w.heap.size + 1, 0, none⟩), .pointer (some ⟨w.heap.size + 1 + 1, 0, none⟩)]] W fun e w' => e = .returned (.int .i64 r) ∧ K w') :
    Calls Tryz.prog 52 #[.pointer (some ⟨D, 0, none⟩), .int .i64 f, .int .i64 n] w fun e w' => e = .returned (.int .i64 r) ∧ K w' := by
  have hlt := h.lt
  have hB := h.base
  have hmf : ∀ (fn : Fn) (first cap : Array Value) (w : World), (Instr.makeFunc fn first cap).run Tryz.prog w = .ok (.func fn first cap) w := fun _ _ _ _ => rfl
  go_enter Tryz.func52, Tryz.ntmps52
  go_upto_region 1 with fail
  refine wp_gen (fun W => Below w.heap.size w W ∧ W.cell? ⟨w.heap.size, 0, none⟩ = some (.pointer (some ⟨D, 0, none⟩)) ∧ W.cell? ⟨w.heap.size + 1, 0, none⟩ = some (.int .i64 f) ∧ W.cell? ⟨w.heap.size + 1 + 1, 0, none⟩ = some (.int .i64 n)) ⟨bel_alloc (bel_alloc (bel_alloc (Below.refl _ _) _) _) _, by simp [go_sem], by simp [go_sem], by simp [go_sem]⟩ ?_
  rintro W ⟨hbW, cd, cf, cn⟩
  have hd := h.keep hbW
  have km := may_c D d.off f W hd.off
  rw [hoff, show mayv false f = 0 by unfold mayv; rw [if_neg (by simp), if_neg (by omega)]] at km
  have f0 : (0 : Int) ≤ f := by omega
  have f1 : (f : Int) < 2 := by omega
  have n0 : decide (n < 0) = false := decide_eq_false (by omega)
  have hdd : DiskAt W.drew ρ B D d := hd.keep ((Below.refl _ _).drew)
  have ks := stands_at (hdd.file f hf) hs
  rw [Nat.mul_comm 2 f] at ks
  have hns' : ¬ (((d.file f).stands.length : Nat) : Int) < n := by omega
  have hKK : ∀ w2, Below W.heap.size W w2 → Calls Tryz.prog 76 #[.pointer (some ⟨D, 0, none⟩), .func (.func 85) #[] #[.pointer (some ⟨w.heap.size, 0, none⟩), .pointer (some ⟨w.heap.size + 1, 0, none⟩), .pointer (some ⟨w.heap.size + 1 + 1, 0, none⟩)]] w2 fun e w' => e = .returned (.int .i64 r) ∧ K w' := fun w2 hb2 =>
    kc w2 (bel_call hbW hb2) ((hb2.cell (block_lt_of_cell cd)).trans cd) ((hb2.cell (block_lt_of_cell cf)).trans cf) ((hb2.cell (block_lt_of_cell cn)).trans cn)
  have HKK := Lib.hid hKK
  clear hKK kc
  go_upto_region 4 with (go_at_call 45; with_reducible refine km.mono ?_; rintro e w1 ⟨rfl, hw1⟩; subst hw1)
  go_region_held3 (fun w' => w'.cell? ⟨w.heap.size, 0, none⟩ = some (.pointer (some ⟨D, 0, none⟩)) ∧ w'.cell? ⟨w.heap.size + 1, 0, none⟩ = some (.int .i64 f) ∧ w'.cell? ⟨w.heap.size + 1 + 1, 0, none⟩ = some (.int .i64 n))
    (first | exact ⟨cd, cf, cn⟩ | exact ⟨e1, e2, e3⟩)
    (first | (go_at_call 44; with_reducible refine ks.mono ?_; rintro e w2 ⟨v', rfl, hr, hb2⟩; obtain ⟨p, cap, rfl⟩ := hr.shape; have hb3 := bel_call ((Below.refl _ _).drew) hb2; have e1 := (hb3.cell (block_lt_of_cell cd)).trans cd; have e2 := (hb3.cell (block_lt_of_cell cf)).trans cf; have e3 := (hb3.cell (block_lt_of_cell cn)).trans cn; have kk := HKK.out _ hb3) | fail)
  all_goals (go_wp2_with (go_at_call 76; with_reducible refine kk.mono ?_; rintro e w3 ⟨rfl, hK⟩))
  all_goals go_ret
  all_goals exact ⟨rfl, hK⟩
set_option maxRecDepth 100000 in
set_option maxHeartbeats 1600000 in
theorem cut_arg {w : World} {ρ : Nat → Nat} {B D : Nat} {d : Dk} (h : DiskAt w ρ B D d) (f : Nat) (hf : f < 2) (n : Int) (hs : Small (d.file f)) (hn : 0 ≤ n) (hns : (d.file f).stands.length < n) (hoff : d.off = false) :
    Calls Tryz.prog 52 #[.pointer (some ⟨D, 0, none⟩), .int .i64 f, .int .i64 n] w fun e w' => e = .returned (.int .i64 1) ∧ Below w.heap.size w w' := by
  have hlt := h.lt
  have hB := h.base
  have hmf : ∀ (fn : Fn) (first cap : Array Value) (w : World), (Instr.makeFunc fn first cap).run Tryz.prog w = .ok (.func fn first cap) w := fun _ _ _ _ => rfl
  go_enter Tryz.func52, Tryz.ntmps52
  go_upto_region 1 with fail
  refine wp_gen (fun W => Below w.heap.size w W ∧ W.cell? ⟨w.heap.size, 0, none⟩ = some (.pointer (some ⟨D, 0, none⟩)) ∧ W.cell? ⟨w.heap.size + 1, 0, none⟩ = some (.int .i64 f) ∧ W.cell? ⟨w.heap.size + 1 + 1, 0, none⟩ = some (.int .i64 n)) ⟨bel_alloc (bel_alloc (bel_alloc (Below.refl _ _) _) _) _, by simp [go_sem], by simp [go_sem], by simp [go_sem]⟩ ?_
  rintro W ⟨hbW, cd, cf, cn⟩
  have hd := h.keep hbW
  have km := may_c D d.off f W hd.off
  rw [hoff, show mayv false f = 0 by unfold mayv; rw [if_neg (by simp), if_neg (by omega)]] at km
  have f0 : (0 : Int) ≤ f := by omega
  have f1 : (f : Int) < 2 := by omega
  have n0 : decide (n < 0) = false := decide_eq_false (by omega)
  have hdd : DiskAt W.drew ρ B D d := hd.keep ((Below.refl _ _).drew)
  have ks := stands_at (hdd.file f hf) hs
  rw [Nat.mul_comm 2 f] at ks
  have hns' : (((d.file f).stands.length : Nat) : Int) < n := by omega
  go_upto_region 4 with (go_at_call 45; with_reducible refine km.mono ?_; rintro e w1 ⟨rfl, hw1⟩; subst hw1)
  go_region_held3 (fun w' => w'.cell? ⟨w.heap.size, 0, none⟩ = some (.pointer (some ⟨D, 0, none⟩)) ∧ w'.cell? ⟨w.heap.size + 1, 0, none⟩ = some (.int .i64 f) ∧ w'.cell? ⟨w.heap.size + 1 + 1, 0, none⟩ = some (.int .i64 n))
    (first | exact ⟨cd, cf, cn⟩ | exact ⟨e1, e2, e3⟩)
    (first | (go_at_call 44; with_reducible refine ks.mono ?_; rintro e w2 ⟨v', rfl, hr, hb2⟩; obtain ⟨p, cap, rfl⟩ := hr.shape; have hb3 := bel_call ((Below.refl _ _).drew) hb2; have e1 := (hb3.cell (block_lt_of_cell cd)).trans cd; have e2 := (hb3.cell (block_lt_of_cell cf)).trans cf; have e3 := (hb3.cell (block_lt_of_cell cn)).trans cn) | fail)
  all_goals (go_wp2_with fail)
  all_goals go_ret
  all_goals exact ⟨rfl, bel_call hbW hb3⟩
set_option maxRecDepth 100000 in
set_option maxHeartbeats 1600000 in
theorem cut_neg {w : World} {ρ : Nat → Nat} {B D : Nat} {d : Dk} (h : DiskAt w ρ B D d) (f : Nat) (hf : f < 2) (n : Int) (hn : n < 0) (hoff : d.off = false) :
    Calls Tryz.prog 52 #[.pointer (some ⟨D, 0, none⟩), .int .i64 f, .int .i64 n] w fun e w' => e = .returned (.int .i64 1) ∧ Below w.heap.size w w' := by
  have hlt := h.lt
  have hB := h.base
  have hmf : ∀ (fn : Fn) (first cap : Array Value) (w : World), (Instr.makeFunc fn first cap).run Tryz.prog w = .ok (.func fn first cap) w := fun _ _ _ _ => rfl
  go_enter Tryz.func52, Tryz.ntmps52
  go_upto_region 1 with fail
  refine wp_gen (fun W => Below w.heap.size w W ∧ W.cell? ⟨w.heap.size, 0, none⟩ = some (.pointer (some ⟨D, 0, none⟩)) ∧ W.cell? ⟨w.heap.size + 1, 0, none⟩ = some (.int .i64 f) ∧ W.cell? ⟨w.heap.size + 1 + 1, 0, none⟩ = some (.int .i64 n)) ⟨bel_alloc (bel_alloc (bel_alloc (Below.refl _ _) _) _) _, by simp [go_sem], by simp [go_sem], by simp [go_sem]⟩ ?_
  rintro W ⟨hbW, cd, cf, cn⟩
  have hd := h.keep hbW
  have km := may_c D d.off f W hd.off
  rw [hoff, show mayv false f = 0 by unfold mayv; rw [if_neg (by simp), if_neg (by omega)]] at km
  have f0 : (0 : Int) ≤ f := by omega
  have f1 : (f : Int) < 2 := by omega
  have n0 : decide (n < 0) = true := decide_eq_true hn
  go_upto_region 4 with (go_at_call 45; with_reducible refine km.mono ?_; rintro e w1 ⟨rfl, hw1⟩; subst hw1)
  go_quiet (fail)
  all_goals (go_wp2_with fail)
  all_goals go_ret
  all_goals exact ⟨rfl, bel_call hbW (below_drewN _ _)⟩
end Go.Proofs.YtfohemgfiidokaaGreatDoor
namespace Go.Proofs.YtfohemgfiidokaaGreatDoor
open Go.RowKit Go.Sort

set_option maxRecDepth 100000 in
theorem write_no {w : World} {ρ : Nat → Nat} {B D : Nat} {d : Dk} (h : DiskAt w ρ B D d) (f : Int) (p : Option Addr) (len cap : Nat) (hm : mayv d.off f ≠ 0) :
    Calls Tryz.prog 41 #[.pointer (some ⟨D, 0, none⟩), .int .i64 f, .slice p len cap] w fun e w' => e = .returned (.int .i64 (mayv d.off f)) ∧ Below w.heap.size w w' := by
  generalize hz : mayv d.off f = z at hm ⊢
  have HZ := Lib.hid hz
  clear hz
  go_enter Tryz.func41, Tryz.ntmps41
  go_upto_region 1 with fail
  refine wp_gen (fun W => Below w.heap.size w W ∧ W.cell? ⟨w.heap.size, 0, none⟩ = some (.pointer (some ⟨D, 0, none⟩)) ∧ W.cell? ⟨w.heap.size + 1, 0, none⟩ = some (.int .i64 f) ∧ W.cell? ⟨w.heap.size + 1 + 1, 0, none⟩ = some (.slice p len cap)) ⟨bel_alloc (bel_alloc (bel_alloc (Below.refl _ _) _) _) _, by simp [go_sem], by simp [go_sem], by simp [go_sem]⟩ ?_
  rintro W ⟨hbW, cd, cf, cn⟩
  have hd := h.keep hbW
  have km := may_c D d.off f W hd.off
  rw [HZ.out] at km
  go_wp2_with (go_at_call 45; with_reducible refine km.mono ?_; rintro e w1 ⟨rfl, rfl⟩)
  go_ret
  exact ⟨rfl, hbW⟩
set_option maxRecDepth 100000 in
set_option maxHeartbeats 1600000 in
theorem write_w {w : World} {ρ : Nat → Nat} {B D : Nat} {d : Dk} (h : DiskAt w ρ B D d) (f : Nat) (hf : f < 2) (p : Option Addr) (len cap : Nat) (h0 : Small d.f0) (h1 : Small d.f1) (hm0 : 0 ≤ d.most) (hm1 : d.most ≤ 4194304) (hroom : (len : Int) ≤ roomF d) (hoff : d.off = false) (r : Int) (K : World → Prop)
    (kc : ∀ W : World, Below w.heap.size w W → W.cell? ⟨w.heap.size, 0, none⟩ = some (.pointer (some ⟨D, 0, none⟩)) → W.cell? ⟨w.heap.size + 1, 0, none⟩ = some (.int .i64 f) → W.cell? ⟨w.heap.size + 1 + 1, 0, none⟩ = some (.slice p len cap) →
      Calls Tryz.prog 76 #[.pointer (some ⟨D, 0, none⟩), .func (.func 82) #[] #[.pointer (some ⟨w.heap.size, 0, none⟩), .pointer (some ⟨w.heap.size + 1, 0, none⟩), .pointer (some ⟨w.heap.size + 1 + 1, 0, none⟩)]] W fun e w' => e = .returned (.int .i64 r) ∧ K w') :
    Calls Tryz.prog 41 #[.pointer (some ⟨D, 0, none⟩), .int .i64 f, .slice p len cap] w fun e w' => e = .returned (.int .i64 r) ∧ K w' := by
  have hlt := h.lt
  have hB := h.base
  have hmf : ∀ (fn : Fn) (first cap : Array Value) (w : World), (Instr.makeFunc fn first cap).run Tryz.prog w = .ok (.func fn first cap) w := fun _ _ _ _ => rfl
  go_enter Tryz.func41, Tryz.ntmps41
  go_upto_region 1 with fail
  refine wp_gen (fun W => Below w.heap.size w W ∧ W.cell? ⟨w.heap.size, 0, none⟩ = some (.pointer (some ⟨D, 0, none⟩)) ∧ W.cell? ⟨w.heap.size + 1, 0, none⟩ = some (.int .i64 f) ∧ W.cell? ⟨w.heap.size + 1 + 1, 0, none⟩ = some (.slice p len cap)) ⟨bel_alloc (bel_alloc (bel_alloc (Below.refl _ _) _) _) _, by simp [go_sem], by simp [go_sem], by simp [go_sem]⟩ ?_
  rintro W ⟨hbW, cd, cf, cn⟩
  have hd := h.keep hbW
  have km := may_c D d.off f W hd.off
  rw [hoff, show mayv false f = 0 by unfold mayv; rw [if_neg (by simp), if_neg (by omega)]] at km
  have f0 : (0 : Int) ≤ f := by omega
  have f1 : (f : Int) < 2 := by omega
  have hdd : DiskAt W.drew ρ B D d := hd.keep ((Below.refl _ _).drew)
  have ks := room_at hdd h0 h1 hm0 hm1
  have hns' : ¬ roomF d < (len : Int) := by omega
  generalize roomF d = rm at ks hns'
  have hKK : ∀ w2, Below W.heap.size W w2 → Calls Tryz.prog 76 #[.pointer (some ⟨D, 0, none⟩), .func (.func 82) #[] #[.pointer (some ⟨w.heap.size, 0, none⟩), .pointer (some ⟨w.heap.size + 1, 0, none⟩), .pointer (some ⟨w.heap.size + 1 + 1, 0, none⟩)]] w2 fun e w' => e = .returned (.int .i64 r) ∧ K w' := fun w2 hb2 =>
    kc w2 (bel_call hbW hb2) ((hb2.cell (block_lt_of_cell cd)).trans cd) ((hb2.cell (block_lt_of_cell cf)).trans cf) ((hb2.cell (block_lt_of_cell cn)).trans cn)
  have HKK := Lib.hid hKK
  clear hKK kc
  go_upto_region 4 with (go_at_call 45; with_reducible refine km.mono ?_; rintro e w1 ⟨rfl, hw1⟩; subst hw1)
  go_region_held3 (fun w' => w'.cell? ⟨w.heap.size, 0, none⟩ = some (.pointer (some ⟨D, 0, none⟩)) ∧ w'.cell? ⟨w.heap.size + 1, 0, none⟩ = some (.int .i64 f) ∧ w'.cell? ⟨w.heap.size + 1 + 1, 0, none⟩ = some (.slice p len cap))
    (first | exact ⟨cd, cf, cn⟩ | exact ⟨e1, e2, e3⟩)
    (first | (go_at_call 16; with_reducible refine ks.mono ?_; rintro e w2 ⟨rfl, hb2⟩; have hb3 := bel_call ((Below.refl _ _).drew) hb2; have e1 := (hb3.cell (block_lt_of_cell cd)).trans cd; have e2 := (hb3.cell (block_lt_of_cell cf)).trans cf; have e3 := (hb3.cell (block_lt_of_cell cn)).trans cn; have kk := HKK.out _ hb3) | fail)
  all_goals (go_wp2_with (go_at_call 76; with_reducible refine kk.mono ?_; rintro e w3 ⟨rfl, hK⟩))
  all_goals go_ret
  all_goals exact ⟨rfl, hK⟩
set_option maxRecDepth 100000 in
set_option maxHeartbeats 1600000 in
theorem write_full {w : World} {ρ : Nat → Nat} {B D : Nat} {d : Dk} (h : DiskAt w ρ B D d) (f : Nat) (hf : f < 2) (p : Option Addr) (len cap : Nat) (h0 : Small d.f0) (h1 : Small d.f1) (hm0 : 0 ≤ d.most) (hm1 : d.most ≤ 4194304) (hroom : roomF d < (len : Int)) (hoff : d.off = false) :
    Calls Tryz.prog 41 #[.pointer (some ⟨D, 0, none⟩), .int .i64 f, .slice p len cap] w fun e w' => e = .returned (.int .i64 7) ∧ Below w.heap.size w w' := by
  have hlt := h.lt
  have hB := h.base
  have hmf : ∀ (fn : Fn) (first cap : Array Value) (w : World), (Instr.makeFunc fn first cap).run Tryz.prog w = .ok (.func fn first cap) w := fun _ _ _ _ => rfl
  go_enter Tryz.func41, Tryz.ntmps41
  go_upto_region 1 with fail
  refine wp_gen (fun W => Below w.heap.size w W ∧ W.cell? ⟨w.heap.size, 0, none⟩ = some (.pointer (some ⟨D, 0, none⟩)) ∧ W.cell? ⟨w.heap.size + 1, 0, none⟩ = some (.int .i64 f) ∧ W.cell? ⟨w.heap.size + 1 + 1, 0, none⟩ = some (.slice p len cap)) ⟨bel_alloc (bel_alloc (bel_alloc (Below.refl _ _) _) _) _, by simp [go_sem], by simp [go_sem], by simp [go_sem]⟩ ?_
  rintro W ⟨hbW, cd, cf, cn⟩
  have hd := h.keep hbW
  have km := may_c D d.off f W hd.off
  rw [hoff, show mayv false f = 0 by unfold mayv; rw [if_neg (by simp), if_neg (by omega)]] at km
  have f0 : (0 : Int) ≤ f := by omega
  have f1 : (f : Int) < 2 := by omega
  have hdd : DiskAt W.drew ρ B D d := hd.keep ((Below.refl _ _).drew)
  have ks := room_at hdd h0 h1 hm0 hm1
  have hns' : roomF d < (len : Int) := by omega
  generalize roomF d = rm at ks hns'
  go_upto_region 4 with (go_at_call 45; with_reducible refine km.mono ?_; rintro e w1 ⟨rfl, hw1⟩; subst hw1)
  go_region_held3 (fun w' => w'.cell? ⟨w.heap.size, 0, none⟩ = some (.pointer (some ⟨D, 0, none⟩)) ∧ w'.cell? ⟨w.heap.size + 1, 0, none⟩ = some (.int .i64 f) ∧ w'.cell? ⟨w.heap.size + 1 + 1, 0, none⟩ = some (.slice p len cap))
    (first | exact ⟨cd, cf, cn⟩ | exact ⟨e1, e2, e3⟩)
    (first | (go_at_call 16; with_reducible refine ks.mono ?_; rintro e w2 ⟨rfl, hb2⟩; have hb3 := bel_call ((Below.refl _ _).drew) hb2; have e1 := (hb3.cell (block_lt_of_cell cd)).trans cd; have e2 := (hb3.cell (block_lt_of_cell cf)).trans cf; have e3 := (hb3.cell (block_lt_of_cell cn)).trans cn) | fail)
  all_goals (go_wp2_with fail)
  all_goals go_ret
  all_goals exact ⟨rfl, bel_call hbW hb3⟩
end Go.Proofs.YtfohemgfiidokaaGreatDoor
