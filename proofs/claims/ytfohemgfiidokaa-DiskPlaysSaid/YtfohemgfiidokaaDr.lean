/- The closure of Write. -/
import Derived.Test.YtfohemgfiidokaaDk
namespace Go.Proofs.Ytfohemgfiidokaa
open Go.RowKit Go.Sort

set_option maxRecDepth 100000 in
set_option maxHeartbeats 1600000 in
theorem write1_c {w : World} {ρ : Nat → Nat} {B D f : Nat} {d : Dk} (bd bf bn : Nat) (cv : Value) (b : List Int) (h : DiskAt w ρ B D d) (hf : f < 2) (hlen : (d.file f).l.length ≤ 1000000000) (hv : RdB w cv b) (hbl : b.length ≤ 1000000000)
    (cd : w.cell? ⟨bd, 0, none⟩ = some (.pointer (some ⟨D, 0, none⟩))) (cf : w.cell? ⟨bf, 0, none⟩ = some (.int .i64 f)) (cn : w.cell? ⟨bn, 0, none⟩ = some cv) (rd : ρ bd = 0) (rf : ρ bf = 0) (rn : ρ bn = 0) :
    Calls Try.prog 37 #[.pointer (some ⟨bd, 0, none⟩), .pointer (some ⟨bf, 0, none⟩), .pointer (some ⟨bn, 0, none⟩)] w fun e w' => e = .returned undef ∧ (∃ ρ', DiskAt w' ρ' B D (d.setFile f ⟨(d.file f).s, (d.file f).l ++ [.wr b]⟩) ∧ Mv ρ ρ' w w') := by
  obtain ⟨i0, hi, hz0, hz1, hz2⟩ := info_parts Try.info88
  obtain ⟨pv, lcv, ccv, rfl⟩ : ∃ p n c, cv = .slice p n c := by
    rcases hv with ⟨h1, -⟩ | ⟨a, g, o, cap, h1, -⟩
    · exact ⟨_, _, _, h1⟩
    · exact ⟨_, _, _, h1⟩
  have hlt := h.lt
  have hB := h.base
  obtain ⟨sv, lv, c0, c1, hs, us, hown, hrole, hch⟩ := h.file f hf
  have hus : us.length = (d.file f).l.length := by have := hown.1; omega
  have f0 : (0 : Int) ≤ f := by omega
  have f1 : (f : Int) < 2 := by omega
  have c1' : w.cell? ⟨D, f * 2 + 1, none⟩ = some lv := by rw [Nat.mul_comm]; exact c1
  have kc := clone_c (.slice pv lcv ccv) b w.drew (hv.keep (Below.refl _ w).drew) hbl
  have HR := Lib.hid (And.intro rd (And.intro rf rn))
  have HH := Lib.hid (And.intro hs (And.intro hrole hch))
  clear hs hrole hch rd rf rn hv
  have l1 : bd < w.heap.size := block_lt_of_cell cd
  have l2 : bf < w.heap.size := block_lt_of_cell cf
  have l3 : bn < w.heap.size := block_lt_of_cell cn
  go_enter Try.func37, Try.ntmps37
  refine wp_region_last (S := fun w' => w'.cell? ⟨bd, 0, none⟩ = some (.pointer (some ⟨D, 0, none⟩)) ∧ w'.cell? ⟨bf, 0, none⟩ = some (.int .i64 f) ∧ w'.cell? ⟨bn, 0, none⟩ = some (.slice pv lcv ccv) ∧ w'.cell? ⟨D, f * 2 + 1, none⟩ = some lv) 19 (by kernel_rfl) ⟨cd, cf, cn, c1'⟩ (fun hHeld => ?_)
  refine wpAnyT_take 0 (oi := ?_) (v := ?_) ?_ (by kernel_rfl) (by kernel_rfl) (by kernel_rfl) (by kernel_rfl) (by kernel_rfl) ?_ (Or.inl ⟨?_, ?_⟩) (by assumption) ?_
  rotate_left 2
  · simp only [List.getElem?_toArray, List.getElem?_cons_zero]; rfl
  · exact fun _ _ _ h => h
  · rfl
  · (intro w hSw; (try dsimp only at hSw); go_simp) <;> with_reducible rfl
  try simp only [Act.put, List.setIfInBounds_toArray, List.set_cons_zero, List.set_cons_succ]
  refine wpAnyT_take 1 (oi := ?_) (v := ?_) ?_ (by kernel_rfl) (by kernel_rfl) (by kernel_rfl) (by kernel_rfl) (by kernel_rfl) ?_ (Or.inl ⟨?_, ?_⟩) (by assumption) ?_
  rotate_left 2
  · simp only [List.getElem?_toArray, List.getElem?_cons_succ, List.getElem?_cons_zero]; rfl
  · exact fun _ _ _ h => h
  · rfl
  · (intro w hSw; (try dsimp only at hSw); go_simp) <;> with_reducible rfl
  try simp only [Act.put, List.setIfInBounds_toArray, List.set_cons_zero, List.set_cons_succ]
  refine wpAnyT_take 2 (oi := ?_) (v := ?_) ?_ (by kernel_rfl) (by kernel_rfl) (by kernel_rfl) (by kernel_rfl) (by kernel_rfl) ?_ (Or.inl ⟨?_, ?_⟩) (by assumption) ?_
  rotate_left 2
  · simp only [List.getElem?_toArray, List.getElem?_cons_succ, List.getElem?_cons_zero]; rfl
  · exact fun _ _ _ h => h
  · rfl
  · (intro w hSw; (try dsimp only at hSw); go_simp) <;> with_reducible rfl
  try simp only [Act.put, List.setIfInBounds_toArray, List.set_cons_zero, List.set_cons_succ]
  refine wpAnyT_take 3 (oi := ?_) (v := ?_) ?_ (by kernel_rfl) (by kernel_rfl) (by kernel_rfl) (by kernel_rfl) (by kernel_rfl) ?_ (Or.inl ⟨?_, ?_⟩) (by assumption) ?_
  rotate_left 2
  · simp only [List.getElem?_toArray, List.getElem?_cons_succ, List.getElem?_cons_zero]; rfl
  · exact fun _ _ _ h => h
  · rfl
  · (intro w hSw; (try dsimp only at hSw); go_simp) <;> with_reducible rfl
  try simp only [Act.put, List.setIfInBounds_toArray, List.set_cons_zero, List.set_cons_succ]
  refine wpAnyT_take 4 (oi := ?_) (v := ?_) ?_ (by kernel_rfl) (by kernel_rfl) (by kernel_rfl) (by kernel_rfl) (by kernel_rfl) ?_ (Or.inl ⟨?_, ?_⟩) (by assumption) ?_
  rotate_left 2
  · simp only [List.getElem?_toArray, List.getElem?_cons_succ, List.getElem?_cons_zero]; rfl
  · exact fun _ _ _ h => h
  · rfl
  · (intro w hSw; (try dsimp only at hSw); go_simp) <;> with_reducible rfl
  try simp only [Act.put, List.setIfInBounds_toArray, List.set_cons_zero, List.set_cons_succ]
  refine wpAnyT_take 5 (oi := ?_) (v := ?_) ?_ (by kernel_rfl) (by kernel_rfl) (by kernel_rfl) (by kernel_rfl) (by kernel_rfl) ?_ (Or.inl ⟨?_, ?_⟩) (by assumption) ?_
  rotate_left 2
  · simp only [List.getElem?_toArray, List.getElem?_cons_succ, List.getElem?_cons_zero]; rfl
  · exact fun _ _ _ h => h
  · rfl
  · (intro w hSw; (try dsimp only at hSw); go_simp) <;> with_reducible rfl
  try simp only [Act.put, List.setIfInBounds_toArray, List.set_cons_zero, List.set_cons_succ]
  refine wpAnyT_take 6 (oi := ?_) (v := ?_) ?_ (by kernel_rfl) (by kernel_rfl) (by kernel_rfl) (by kernel_rfl) (by kernel_rfl) ?_ (Or.inl ⟨?_, ?_⟩) (by assumption) ?_
  rotate_left 2
  · simp only [List.getElem?_toArray, List.getElem?_cons_succ, List.getElem?_cons_zero]; rfl
  · exact fun _ _ _ h => h
  · rfl
  · (intro w hSw; (try dsimp only at hSw); go_simp) <;> with_reducible rfl
  try simp only [Act.put, List.setIfInBounds_toArray, List.set_cons_zero, List.set_cons_succ]
  refine wpAnyT_take 7 (oi := ?_) (v := ?_) ?_ (by kernel_rfl) (by kernel_rfl) (by kernel_rfl) (by kernel_rfl) (by kernel_rfl) ?_ (Or.inl ⟨?_, ?_⟩) (by assumption) ?_
  rotate_left 2
  · simp only [List.getElem?_toArray, List.getElem?_cons_succ, List.getElem?_cons_zero]; rfl
  · exact fun _ _ _ h => h
  · rfl
  · (intro w hSw; (try dsimp only at hSw); go_simp) <;> with_reducible rfl
  try simp only [Act.put, List.setIfInBounds_toArray, List.set_cons_zero, List.set_cons_succ]
  refine wpAnyT_take 8 (oi := ?_) (v := ?_) ?_ (by kernel_rfl) (by kernel_rfl) (by kernel_rfl) (by kernel_rfl) (by kernel_rfl) ?_ (Or.inl ⟨?_, ?_⟩) (by assumption) ?_
  rotate_left 2
  · simp only [List.getElem?_toArray, List.getElem?_cons_succ, List.getElem?_cons_zero]; rfl
  · exact fun _ _ _ h => h
  · rfl
  · (intro w hSw; (try dsimp only at hSw); go_simp) <;> with_reducible rfl
  try simp only [Act.put, List.setIfInBounds_toArray, List.set_cons_zero, List.set_cons_succ]
  refine wpAnyT_take 9 (oi := ?_) (v := ?_) ?_ (by kernel_rfl) (by kernel_rfl) (by kernel_rfl) (by kernel_rfl) (by kernel_rfl) ?_ (Or.inl ⟨?_, ?_⟩) (by assumption) ?_
  rotate_left 2
  · simp only [List.getElem?_toArray, List.getElem?_cons_succ, List.getElem?_cons_zero]; rfl
  · exact fun _ _ _ h => h
  · rfl
  · (intro w hSw; (try dsimp only at hSw); go_simp) <;> with_reducible rfl
  try simp only [Act.put, List.setIfInBounds_toArray, List.set_cons_zero, List.set_cons_succ]
  refine wpAnyT_take 15 (oi := ?_) (v := ?_) ?_ (by kernel_rfl) (by kernel_rfl) (by kernel_rfl) (by kernel_rfl) (by kernel_rfl) ?_ (Or.inl ⟨?_, ?_⟩) (by assumption) ?_
  rotate_left 2
  · simp only [List.getElem?_toArray, List.getElem?_cons_succ, List.getElem?_cons_zero]; rfl
  · exact fun _ _ _ h => h
  · rfl
  · (intro w hSw; (try dsimp only at hSw); go_simp) <;> with_reducible rfl
  try simp only [Act.put, List.setIfInBounds_toArray, List.set_cons_zero, List.set_cons_succ]
  refine wpAnyT_take 16 (oi := ?_) (v := ?_) ?_ (by kernel_rfl) (by kernel_rfl) (by kernel_rfl) (by kernel_rfl) (by kernel_rfl) ?_ (Or.inl ⟨?_, ?_⟩) (by assumption) ?_
  rotate_left 2
  · simp only [List.getElem?_toArray, List.getElem?_cons_succ, List.getElem?_cons_zero]; rfl
  · exact fun _ _ _ h => h
  · rfl
  · (intro w hSw; (try dsimp only at hSw); go_simp) <;> with_reducible rfl
  try simp only [Act.put, List.setIfInBounds_toArray, List.set_cons_zero, List.set_cons_succ]
  refine wpAnyT_step 10 (o := ?_) (by kernel_rfl) ?_ (fun K hK => ?_)
  rotate_left 1
  · simp only [List.getElem?_toArray, List.getElem?_cons_succ, List.getElem?_cons_zero]; rfl
  go_simp
  (go_at_call 38; with_reducible refine kc.mono ?_; rintro e w2 ⟨v2, rfl, hr, hb2⟩; obtain ⟨pr, capr, rfl⟩ := hr.shape)
  go_wp2_with fail
  have hb2' : Below w.heap.size w w2 := bel_call (Below.refl _ w).drew hb2
  refine hK.out _ _ (fun _ => ⟨(hb2'.cell l1).trans cd, (hb2'.cell l2).trans cf, (hb2'.cell l3).trans cn, (hb2'.cell hlt).trans c1'⟩) (fun hH => ?_)
  clear hHeld; have hHeld := hH (by decide); clear hH hK K
  try simp only [Act.put, List.setIfInBounds_toArray, List.set_cons_zero, List.set_cons_succ]
  clear kc
  refine wpAnyT_take 11 (oi := ?_) (v := ?_) ?_ (by kernel_rfl) (by kernel_rfl) (by kernel_rfl) (by kernel_rfl) (by kernel_rfl) ?_ (Or.inl ⟨?_, ?_⟩) (by assumption) ?_
  rotate_left 2
  · simp only [List.getElem?_toArray, List.getElem?_cons_succ, List.getElem?_cons_zero]; rfl
  · exact fun _ _ _ h => h
  · rfl
  · (intro w hSw; (try dsimp only at hSw); go_simp) <;> with_reducible rfl
  try simp only [Act.put, List.setIfInBounds_toArray, List.set_cons_zero, List.set_cons_succ]
  refine wpAnyT_take 12 (oi := ?_) (v := ?_) ?_ (by kernel_rfl) (by kernel_rfl) (by kernel_rfl) (by kernel_rfl) (by kernel_rfl) ?_ (Or.inl ⟨?_, ?_⟩) (by assumption) ?_
  rotate_left 2
  · simp only [List.getElem?_toArray, List.getElem?_cons_succ, List.getElem?_cons_zero]; rfl
  · exact fun _ _ _ h => h
  · rfl
  · (intro w hSw; (try dsimp only at hSw); go_simp) <;> with_reducible rfl
  try simp only [Act.put, List.setIfInBounds_toArray, List.set_cons_zero, List.set_cons_succ]
  refine wpAnyT_step 13 (o := ?_) (by kernel_rfl) ?_ (fun K hK => ?_)
  rotate_left 1
  · simp only [List.getElem?_toArray, List.getElem?_cons_succ, List.getElem?_cons_zero]; rfl
  have hsz2 := hb2'.size
  have hbW : Below w.heap.size w (w2.alloc (.cells #[.iface 79 (.agg #[.slice pr b.length capr])] 88)) := bel_alloc hb2' _
  have hdW := h.keep hbW
  have hownW := ownsRow_keep hown hbW
  have hnews : ∀ j u, ([.iface 79 (.agg #[.slice pr b.length capr])] : List Value)[j]? = some u → (w2.alloc (.cells #[.iface 79 (.agg #[.slice pr b.length capr])] 88)).cell? ((⟨w2.heap.size, 0, none⟩ : Addr).add j) = some u := fun j u hu => by
    rcases j with _ | j
    · simp at hu; subst hu; simp [go_sem]
    · simp at hu
  go_simp
  refine hK.out _ _ (fun _ => ⟨(hbW.cell l1).trans cd, (hbW.cell l2).trans cf, (hbW.cell l3).trans cn, (hbW.cell hlt).trans c1'⟩) (fun hH => ?_)
  clear hHeld; have hHeld := hH (by decide); clear hH hK K
  try simp only [Act.put, List.setIfInBounds_toArray, List.set_cons_zero, List.set_cons_succ]
  refine wpAnyT_step 14 (o := ?_) (by kernel_rfl) ?_ (fun K hK => ?_)
  rotate_left 1
  · simp only [List.getElem?_toArray, List.getElem?_cons_succ, List.getElem?_cons_zero]; rfl
  rw [if_pos (by rfl)]
  refine wp_append_fresh _ _ 55 rfl B 88 i0 .nilIface 1 16 Try.underlying55 hi hz0 hz1 hz2 rfl (by decide) lv (d.file f).l.length us rfl hownW ⟨w2.heap.size, 0, none⟩ 1 1 [.iface 79 (.agg #[.slice pr b.length capr])] rfl rfl hnews (by simp [Value.oneCell']) (by unfold maxLen; omega) (by omega) (by simp; omega) ?_
  intro v' w1 hown' hgrow hfr
  have hDw := hgrow.block D (by simp; omega) (fun e => by have := HH.out.2.1 D e.symm; have := h.role; omega)
  have d1 : w1.cell? ⟨D, f * 2 + 1, none⟩ = some lv := (World.cell?_of_block hDw).trans ((World.cell?_of_block (hbW.block D hlt)).trans c1')
  have z1 : w1.frozen? ⟨D, f * 2 + 1, none⟩ = false := (World.frozen?_of_block hDw).trans (hdW.fz _)
  have e1 : w1.cell? ⟨bd, 0, none⟩ = some (.pointer (some ⟨D, 0, none⟩)) := (World.cell?_of_block (hgrow.block bd (by simp; omega) (fun e => by have := HH.out.2.1 bd e.symm; have := HR.out.1; omega))).trans ((hbW.cell l1).trans cd)
  have e2 : w1.cell? ⟨bf, 0, none⟩ = some (.int .i64 f) := (World.cell?_of_block (hgrow.block bf (by simp; omega) (fun e => by have := HH.out.2.1 bf e.symm; have := HR.out.2.1; omega))).trans ((hbW.cell l2).trans cf)
  have e3 : w1.cell? ⟨bn, 0, none⟩ = some (.slice pv lcv ccv) := (World.cell?_of_block (hgrow.block bn (by simp; omega) (fun e => by have := HH.out.2.1 bn e.symm; have := HR.out.2.2; omega))).trans ((hbW.cell l3).trans cn)
  obtain ⟨p, cap, rfl⟩ := own_shape hown'
  refine hK.out _ _ (fun _ => ⟨e1, e2, e3, d1⟩) (fun hH => ?_)
  clear hHeld; have hHeld := hH (by decide); clear hH hK K
  try simp only [Act.put, List.setIfInBounds_toArray, List.set_cons_zero, List.set_cons_succ]
  refine wpAnyT_take 17 (oi := ?_) (v := ?_) ?_ (by kernel_rfl) (by kernel_rfl) (by kernel_rfl) (by kernel_rfl) (by kernel_rfl) ?_ (Or.inl ⟨?_, ?_⟩) (by assumption) ?_
  rotate_left 2
  · simp only [List.getElem?_toArray, List.getElem?_cons_succ, List.getElem?_cons_zero]; rfl
  · exact fun _ _ _ h => h
  · rfl
  · (intro w hSw; (try dsimp only at hSw); go_simp) <;> with_reducible rfl
  try simp only [Act.put, List.setIfInBounds_toArray, List.set_cons_zero, List.set_cons_succ]
  refine wpAnyT_take 18 (oi := ?_) (v := ?_) ?_ (by kernel_rfl) (by kernel_rfl) (by kernel_rfl) (by kernel_rfl) (by kernel_rfl) ?_ (Or.inl ⟨?_, ?_⟩) (by assumption) ?_
  rotate_left 2
  · simp only [List.getElem?_toArray, List.getElem?_cons_succ, List.getElem?_cons_zero]; rfl
  · exact fun _ _ _ h => h
  · rfl
  · (intro w hSw; (try dsimp only at hSw); go_simp) <;> with_reducible rfl
  try simp only [Act.put, List.setIfInBounds_toArray, List.set_cons_zero, List.set_cons_succ]
  refine wpAnyT_step 19 (o := ?_) (by kernel_rfl) ?_ (fun K hK => ?_)
  rotate_left 1
  · simp only [List.getElem?_toArray, List.getElem?_cons_succ, List.getElem?_cons_zero]; rfl
  go_simp
  refine hK.out _ _ (fun hx => absurd hx (by decide)) (fun _ => ?_)
  clear hHeld hK K
  refine wpAnyT_done (by kernel_rfl) ?_ _
  try simp only [Act.put, List.setIfInBounds_toArray, List.set_cons_zero, List.set_cons_succ]
  go_end0
  have hs1 : RdR (w2.alloc (.cells #[.iface 79 (.agg #[.slice pr b.length capr])] 88)) ρ sv (d.file f).s := (HH.out.1).other hbW.size fun g hgl _ => hbW.block g hgl
  have hr2 : RowO (w2.alloc (.cells #[.iface 79 (.agg #[.slice pr b.length capr])] 88)) w.drew.heap.size (.slice pr b.length capr) b := hr.keep (bel_alloc (Below.refl _ _) _)
  have hu1 : ChgR (w2.alloc (.cells #[.iface 79 (.agg #[.slice pr b.length capr])] 88)) ρ (.iface 79 (.agg #[.slice pr b.length capr])) (.wr b) := ⟨.slice pr b.length capr, rfl, hr2.rdr h.fresh⟩
  obtain ⟨ρ', r1, r2⟩ := hdW.appended (c := .wr b) hf ((hbW.cell hlt).trans c0) ((hbW.cell hlt).trans c1) hs1 HH.out.2.1 (fun j hj => (HH.out.2.2 j hj).imp fun u hu => ⟨hu.1, hu.2.other hbW.size fun g hgl _ => hbW.block g hgl⟩) hus hu1 hown' hgrow (fun g hg => (hfr g hg).imp id id)
  rw [Nat.mul_comm 2 f] at r1 r2
  exact ⟨rfl, ρ', r1, (Mv.ofBelow ρ hbW).trans r2⟩
end Go.Proofs.Ytfohemgfiidokaa
