/- Append of rows that may be read; what the law's p holds behind a store. -/
import Derived.Lib.SmallJoins
import Derived.Test.YtfohemgfiidokaaDoorKb
import Derived.Test.YtfohemgfiidokaaDoorKc
namespace Go.Proofs.YtfohemgfiidokaaDoor
open Go.RowKit Go.Sort

/-- the values that a list's rows are -/
def NewsOf (w : World) (u : Value) (ms : List (List Int)) (news : List Value) : Prop :=
  news.length = ms.length ∧ ∀ W ρ, (0 < ms.length → ∀ g, u.ownBlock = some g → W.heap[g]? = w.heap[g]?) → RdLS W ρ u ms → ∀ j, j < ms.length → ∃ y, news[j]? = some y ∧ RdS W ρ y (ms[j]?.getD [])
/-- append of rows that may be read to a list of the call's own -/
theorem wp_append_rows {w : World} {o : Oper} {a : Act} {K : Act → World → Prop} {Q : Exit → Act → World → Prop} (s x : Operand)
    (ho : o.op = .call { callee := .builtin .append, args := #[s, x], argTypes := #[30, 30] })
    (base : Nat) (hbase : base ≤ w.heap.size) (v : Value) (n : Nat) (xs : List Value) (hs : a.eval s = v) (hown : w.ownsRow base 35 1 v n xs) (u : Value) (ms : List (List Int)) (hx : a.eval x = u) (hr : RdL w u ms) (hlen : n + ms.length ≤ 10000000)
    (h : ∀ v' w' news, NewsOf w u ms news → w'.ownsRow base 35 1 v' (n + ms.length) (xs ++ news) → w.grownBy w' v.ownBlock → K (a.put o.dst v') w') : o.wp Tryd.prog a w K Q := by
  obtain ⟨i0, hi, hz0, hz1, hz2⟩ := info_parts Tryd.info35
  rcases hr with ⟨rfl, rfl⟩ | ⟨ad, g, of, cap, rfl, hc, ha, hcell⟩
  · have hr := run_append_owned_none (w := w) (P := Tryd.prog) base 30 o.type 35 i0 1 Tryd.underlying30 hi v n xs hown
    unfold Oper.wp execOp
    simp only [ho, resolve, invoke, builtin, Sem.run_bind, Sem.run_pure, Result.andThen_ok, List.map_toArray, List.map_cons, List.map_nil, hs, hx, hr]
    exact h v w [] ⟨rfl, fun W ρ _ _ j hj => by simp at hj⟩ (by rw [List.append_nil]; exact hown) (grownBy_refl _ _)
  · obtain ⟨news, hnl, hnews⟩ : ∃ news : List Value, news.length = ms.length ∧ ∀ j, j < ms.length → ∃ y, news[j]? = some y ∧ w.cell? ⟨g, of + j, none⟩ = some y := by
      refine ⟨(List.range ms.length).map fun j => (w.cell? ⟨g, of + j, none⟩).getD undef, by simp, fun j hj => ?_⟩
      obtain ⟨y, h1, -⟩ := hcell j hj
      exact ⟨y, by simp [hj, h1], h1⟩
    have hone : ∀ u ∈ news, u.oneCell' = true := fun y hy => by
      obtain ⟨j, hj, rfl⟩ := List.mem_iff_getElem.1 hy
      obtain ⟨z, h1, h2⟩ := hnews j (by omega)
      obtain ⟨y2, h3, h4⟩ := hcell j (by omega)
      rw [List.getElem?_eq_getElem hj] at h1
      cases h1
      rw [h2] at h3
      cases h3
      obtain ⟨p2, c2, e2, -⟩ := h4.shape
      rw [e2]; rfl
    refine wp_append_fresh s x 30 ho base 35 i0 (.slice none 0 0) 1 24 Tryd.underlying30 hi hz0 hz1 hz2 rfl (by decide) v n xs hs hown ad ms.length cap news hx (by omega) (fun j y hj => ?_) hone (by unfold maxLen; omega) (by omega) hbase ?_
    · have hjl : j < ms.length := by rw [← hnl]; exact (List.getElem?_eq_some_iff.1 hj).1
      obtain ⟨z, h1, h2⟩ := hnews j hjl
      rw [h1] at hj
      cases hj
      rw [ha (by omega), Addr.add_lit]; exact h2
    · intro v' w' h1 h2 _
      refine h v' w' news ⟨hnl, fun W ρ hb hR j hj => ?_⟩ h1 h2
      rcases hR with ⟨e, -⟩ | ⟨ad2, g2, o2, cap2, e, -, e2, e3⟩
      · cases e
      · cases e
        have e4 := (e2 (by omega)).1
        rw [ha (by omega)] at e4
        injection e4 with q1 q2
        subst q1 q2
        obtain ⟨y, h3, h4⟩ := e3 j hj
        obtain ⟨z, h5, h6⟩ := hnews j hj
        rw [World.cell?_of_block (hb (by omega) g (by rw [ha (by omega)]; rfl)), h6] at h3
        cases h3
        exact ⟨_, h5, h4⟩
theorem RdL.block {w : World} {u : Value} {ms : List (List Int)} (h : RdL w u ms) (h0 : 0 < ms.length) (g : Nat) (e : u.ownBlock = some g) : g < w.heap.size := by
  rcases h with ⟨-, rfl⟩ | ⟨a, g2, o, cap, rfl, h2, h3, h4⟩
  · simp at h0
  · obtain ⟨y, h5, -⟩ := h4 0 h0
    rw [h3 h0] at e
    cases e
    exact block_lt_of_cell h5
theorem grown_belowR {B k : Nat} {W0 wr w1 : World} {v : Value} {xs : List Value} (hown : wr.ownsRow B 35 1 v k xs) (hB : RowKit.Below B W0 wr) (hBs : B ≤ wr.heap.size) (hgrow : wr.grownBy w1 v.ownBlock) : RowKit.Below B W0 w1 :=
  hB.grown hgrow hBs fun j hj => (hown.lt j hj).1
/-- the list that two lists' rows make -/
theorem rows_two {W : World} {B : Nat} {v' : Value} {aL bL : List (List Int)} {xs ys : List Value} {ρ : Nat → Nat} (hxl : xs.length = aL.length) (hx : ∀ j, j < aL.length → ∃ y, xs[j]? = some y ∧ RdS W ρ y (aL[j]?.getD [])) (hy : ∀ j, j < bL.length → ∃ y, ys[j]? = some y ∧ RdS W ρ y (bL[j]?.getD [])) (ho : W.ownsRow B 35 1 v' (aL.length + bL.length) (xs ++ ys)) (hf : ∀ g, B ≤ g → ρ g = 0) : RdLS W ρ v' (aL ++ bL) := by
  obtain ⟨h1, h2⟩ := ho
  have hl : (aL ++ bL).length = aL.length + bL.length := List.length_append
  rcases h2 with ⟨rfl, h2⟩ | ⟨g, cap, cur, rfl, q1, q2, q3, q4, q5, q6⟩
  · have e1 : aL = [] := List.length_eq_zero_iff.1 (by omega)
    have e2 : bL = [] := List.length_eq_zero_iff.1 (by omega)
    subst e1 e2
    exact .inl ⟨rfl, rfl⟩
  · refine .inr ⟨_, g, 0, cap, by rw [hl], by rw [hl]; exact q3, fun _ => ⟨rfl, hf g q1⟩, fun j hj => ?_⟩
    rw [hl] at hj
    have hcell : ∀ y, (xs ++ ys)[j]? = some y → W.cell? ⟨g, 0 + j, none⟩ = some y := fun y e => by
      rw [cell_of_row W g (0 + j) cur _ _ q2, Nat.zero_add, ← Array.getElem?_toList, ← e, ← q6, List.getElem?_take_of_lt (by omega)]
    by_cases hlt : j < aL.length
    · obtain ⟨y, e1, e2⟩ := hx j hlt
      refine ⟨y, hcell y (by rw [List.getElem?_append_left (by omega)]; exact e1), ?_⟩
      rw [List.getElem?_append_left hlt]; exact e2
    · obtain ⟨y, e1, e2⟩ := hy (j - aL.length) (by omega)
      refine ⟨y, hcell y (by rw [List.getElem?_append_right (by omega), hxl]; exact e1), ?_⟩
      rw [List.getElem?_append_right (by omega)]; exact e2
/-- bytes, rows that came in: nobody writes them -/
theorem rdS_old {w W : World} {v : Value} {xs : List Int} {ρ : Nat → Nat} {n : Nat} (h : RdB w v xs) (hn : w.heap.size ≤ n) (hb : RowKit.Below w.heap.size w W) (hρ : ∀ g, g < n → ρ g = 0) : RdS W ρ v xs := by
  rcases h with h | ⟨a, g, o, cap, h1, h2, h3, h4⟩
  · exact .inl h
  · refine .inr ⟨a, g, o, cap, h1, h2, fun hl => ⟨h3 hl, hρ g (by have h5 : g < w.heap.size := block_lt_of_cell (h4 0 hl); omega)⟩, fun j hj => ?_⟩
    rw [hb.cell (block_lt_of_cell (h4 j hj))]; exact h4 j hj
theorem rdLS_old {w W : World} {v : Value} {ls : List (List Int)} {ρ : Nat → Nat} {n : Nat} (h : RdL w v ls) (hn : w.heap.size ≤ n) (hb : RowKit.Below w.heap.size w W) (hρ : ∀ g, g < n → ρ g = 0) : RdLS W ρ v ls := by
  rcases h with h | ⟨a, g, o, cap, h1, h2, h3, h4⟩
  · exact .inl h
  · refine .inr ⟨a, g, o, cap, h1, h2, fun hl => ⟨h3 hl, ?_⟩, fun j hj => ?_⟩
    · obtain ⟨u, h5, -⟩ := h4 0 hl
      exact hρ g (by have h6 : g < w.heap.size := block_lt_of_cell h5; omega)
    · obtain ⟨u, h5, h6⟩ := h4 j hj
      exact ⟨u, by rw [hb.cell (block_lt_of_cell h5)]; exact h5, rdS_old h6 hn hb hρ⟩
theorem rowsT_mem {r : List Int} : ∀ {ls : List (List Int)}, r ∈ ls → 16 + r.length ≤ rowsT ls
  | a :: t, h => by
    rcases List.mem_cons.1 h with rfl | h
    · simp only [rowsT]; omega
    · have := rowsT_mem h; simp only [rowsT]; omega
theorem size_rows : ∀ ls : List (List Int), sizeI ls ≤ 3 * rowsT ls ∧ 16 * ls.length ≤ rowsT ls
  | [] => by simp [sizeI, rowsT]
  | r :: t => by have := size_rows t; simp only [sizeI, rowsT, List.length_cons]; omega
/-- what is known of a step that is not heavy -/
structure StepS (w : World) (s : StepV) : Prop where
  l : RdL w s.lv s.L
  ok : RecOk s.L
  sz : sizeI s.L ≤ 3 * stepT s
  len : s.L.length ≤ stepT s
  pos : 32 ≤ stepT s
theorem StepV.ok.s {w : World} {s : StepV} (h : StepV.ok w s) (ht : stepT s ≤ 16384) : StepS w s := by
  have h1 := size_rows s.L
  have h2 : stepT s = 32 + s.B.length + s.pl + rowsT s.L := rfl
  exact ⟨h.l, fun r hr => ⟨h.lb r hr, by have := rowsT_mem hr; omega⟩, by omega, by omega, by omega⟩
/-- how much a past holds -/
structure PSz (p : Past) (c : Nat) : Prop where
  am : p.all.length + p.more.length ≤ c
  nx : p.next.length ≤ c
  ra : RecOk p.all
  rm : RecOk p.more
  rn : RecOk p.next
theorem recOk_nil : RecOk [] := fun r hr => by simp at hr
theorem PSz.up {p : Past} {c c' : Nat} (h : PSz p c) (hc : c ≤ c') : PSz p c' := ⟨by have := h.am; omega, by have := h.nx; omega, h.ra, h.rm, h.rn⟩
theorem PSz.add {p : Past} {c n : Nat} (h : PSz p c) {ms : List (List Int)} (hm : RecOk ms) (hn : ms.length ≤ n) : PSz ⟨p.all ++ ms, p.more, p.next, p.other⟩ (c + n) := ⟨by have := h.am; simp; omega, by have := h.nx; show p.next.length ≤ _; omega, h.ra.app hm, h.rm, h.rn⟩
theorem PSz.addMore {p : Past} {c n : Nat} (h : PSz p c) {ms : List (List Int)} (hm : RecOk ms) (hn : ms.length ≤ n) : PSz ⟨p.all, ms, p.next, p.other⟩ (c + n) := ⟨by have := h.am; show p.all.length + ms.length ≤ _; omega, by have := h.nx; show p.next.length ≤ _; omega, h.ra, hm, h.rn⟩
theorem PSz.addNext {p : Past} {c n : Nat} (h : PSz p c) {ms : List (List Int)} (hm : RecOk ms) (hn : ms.length ≤ n) : PSz ⟨p.all, p.more, ms, true⟩ (c + n) := ⟨by have := h.am; show p.all.length + p.more.length ≤ _; omega, by show ms.length ≤ _; omega, h.ra, h.rm, hm⟩
theorem PSz.sure {c : Nat} {ms : List (List Int)} (hm : RecOk ms) (hn : ms.length ≤ c) : PSz (.sure ms) c := ⟨by show ms.length + 0 ≤ c; omega, by show 0 ≤ c; omega, hm, recOk_nil, recOk_nil⟩
theorem PSz.found {p : Past} {c : Nat} (h : PSz p c) {ls : List (List Int)} (hf : p.found ls) : RecOk ls ∧ ls.length ≤ c := by
  refine ⟨?_, Past.found_len hf h.am h.nx⟩
  rcases hf with ⟨-, rfl⟩ | ⟨i, -, rfl⟩
  · exact h.rn
  · exact h.ra.app (h.rm.take i)
/-- the law's p in memory: its lists are rows that nobody writes -/
structure PAt (W : World) (P : Nat) (p : Past) (va vb vc : Value) : Prop where
  blk : W.heap[P]? = some (.cells #[va, vb, vc, .bool p.other] 34)
theorem PAt.cells {W : World} {P : Nat} {p : Past} {va vb vc : Value} (h : PAt W P p va vb vc) : W.cell? ⟨P, 0, none⟩ = some va ∧ W.cell? ⟨P, 1, none⟩ = some vb ∧ W.cell? ⟨P, 2, none⟩ = some vc ∧ W.cell? ⟨P, 3, none⟩ = some (.bool p.other) :=
  ⟨cell_of_row _ _ 0 _ _ _ h.blk, cell_of_row _ _ 1 _ _ _ h.blk, cell_of_row _ _ 2 _ _ _ h.blk, cell_of_row _ _ 3 _ _ _ h.blk⟩
def KInv (w1 : World) (L : List StepV) (D P : Nat) (q : Nat) (vv : Value) (W : World) : Prop :=
  ∃ A d o p va vb vc, vv = vptr o ∧ St w1 A D d o [(va, p.all), (vb, p.more), (vc, p.next)] W ∧ P ∈ A ∧ PAt W P p va vb vc ∧ Run d o p ∧ DG d (4 + 4 * q) (176 + 176 * q + 12 * totV (L.take q)) ∧ PSz p (totV (L.take q))

theorem totV_len : ∀ L : List StepV, 32 * L.length ≤ totV L
  | [] => by simp [totV]
  | s :: t => by have := totV_len t; simp only [totV, stepT, List.length_cons]; omega
theorem DG.up2 {d : Dk} {q k m T T' : Nat} (h : DG d k m) (hk : k ≤ 4 + 4 * q) (hm : m ≤ 176 + 176 * q + 12 * T) (ht : T ≤ T') : DG d (4 + 4 * q) (176 + 176 * q + 12 * T') := h.up hk (by omega)
theorem KInv.mk' {w1 : World} {L : List StepV} {D P q k m c : Nat} {A : List Nat} {d : Dk} {o : Option (Nat × Va)} {R : List (Value × List (List Int))} {p : Past} {va vb vc : Value} {W : World} (hS : St w1 A D d o R W) (hPA : P ∈ A) (hP : PAt W P p va vb vc) (ha : (va, p.all) ∈ R) (hb : (vb, p.more) ∈ R) (hc : (vc, p.next) ∈ R)
    (hR : Run d o p) (hG : DG d k m) (hk : k ≤ 4 + 4 * q) (hm : m ≤ 176 + 176 * q + 12 * totV (L.take q)) (hz : PSz p c) (hcc : c ≤ totV (L.take q)) : KInv w1 L D P q (vptr o) W :=
  ⟨A, d, o, p, va, vb, vc, rfl, hS.sub (fun x hx => by
    simp only [List.mem_cons, List.not_mem_nil, or_false] at hx
    rcases hx with rfl | rfl | rfl <;> assumption), hPA, hP, hR, hG.up hk hm, hz.up hcc⟩
theorem PAt.set0 {W : World} {P : Nat} {p : Past} {va vb vc : Value} (h : PAt W P p va vb vc) (v : Value) (p' : Past) (ho : p'.other = p.other) : PAt (W.setCell ⟨P, 0, none⟩ v) P p' v vb vc := ⟨by rw [ho]; exact Joins.block_setCell h.blk v⟩
theorem PAt.set1 {W : World} {P : Nat} {p : Past} {va vb vc : Value} (h : PAt W P p va vb vc) (v : Value) (p' : Past) (ho : p'.other = p.other) : PAt (W.setCell ⟨P, 1, none⟩ v) P p' va v vc := ⟨by rw [ho]; exact Joins.block_setCell h.blk v⟩
theorem PAt.set2 {W : World} {P : Nat} {p : Past} {va vb vc : Value} (h : PAt W P p va vb vc) (v : Value) (p' : Past) (ho : p'.other = p.other) : PAt (W.setCell ⟨P, 2, none⟩ v) P p' va vb v := ⟨by rw [ho]; exact Joins.block_setCell h.blk v⟩
theorem PAt.set3 {W : World} {P : Nat} {p : Past} {va vb vc : Value} (h : PAt W P p va vb vc) (b : Bool) (p' : Past) (ho : p'.other = b) : PAt (W.setCell ⟨P, 3, none⟩ (.bool b)) P p' va vb vc := ⟨by rw [ho]; exact Joins.block_setCell h.blk _⟩
theorem PAt.fz {W : World} {P : Nat} {p : Past} {va vb vc : Value} (h : PAt W P p va vb vc) (i : Nat) : W.frozen? ⟨P, i, none⟩ = false := Joins.unfrozen_of_block h.blk i
theorem PAt.lt {W : World} {P : Nat} {p : Past} {va vb vc : Value} (h : PAt W P p va vb vc) : P < W.heap.size := (Array.getElem?_eq_some_iff.1 h.blk).1
theorem PAt.keep {W W' : World} {P : Nat} {p : Past} {va vb vc : Value} (h : PAt W P p va vb vc) (hb : W'.heap[P]? = W.heap[P]?) : PAt W' P p va vb vc := ⟨hb.trans h.blk⟩
theorem KInv.reset {w1 : World} {L : List StepV} {D P q k m c : Nat} {A : List Nat} {d : Dk} {o : Option (Nat × Va)} {R : List (Value × List (List Int))} {p : Past} {va vb vc v : Value} {ls : List (List Int)} {W : World} (hS : St w1 A D d o R W) (hPA : P ∈ A) (hP : PAt W P p va vb vc) (hv : (v, ls) ∈ R)
    (hR : Run d o (.sure ls)) (hG : DG d k m) (hk : k ≤ 4 + 4 * q) (hm : m ≤ 176 + 176 * q + 12 * totV (L.take q)) (hz : PSz (.sure ls) c) (hcc : c ≤ totV (L.take q)) :
    KInv w1 L D P q (vptr o) ((((W.setCell ⟨P, 0, none⟩ v).setCell ⟨P, 1, none⟩ (.slice none 0 0)).setCell ⟨P, 2, none⟩ (.slice none 0 0)).setCell ⟨P, 3, none⟩ (.bool false)) :=
  KInv.mk' (p := .sure ls) (R := (.slice none 0 0, []) :: R) (((((hS.add (.slice none 0 0) [] fun _ _ => .inl ⟨rfl, rfl⟩).set hPA 0 _).set hPA 1 _).set hPA 2 _).set hPA 3 _) hPA ((((hP.set0 v p rfl).set1 (.slice none 0 0) p rfl).set2 (.slice none 0 0) p rfl).set3 false (.sure ls) rfl) (List.mem_cons_of_mem _ hv) (List.mem_cons_self ..) (List.mem_cons_self ..) hR hG hk hm hz hcc
theorem PAt.fz3 {W : World} {P : Nat} {p : Past} {va vb vc : Value} (h : PAt W P p va vb vc) : W.frozen? ⟨P, 0, none⟩ = false ∧ W.frozen? ⟨P, 1, none⟩ = false ∧ W.frozen? ⟨P, 2, none⟩ = false ∧ W.frozen? ⟨P, 3, none⟩ = false := ⟨h.fz 0, h.fz 1, h.fz 2, h.fz 3⟩
/-- found, of the law's p as it stands -/
theorem found_st {w1 W : World} {A : List Nat} {D : Nat} {d : Dk} {o : Option (Nat × Va)} {R : List (Value × List (List Int))} {p : Past} {va vb vc v : Value} {ls : List (List Int)} {c : Nat} (hS : St w1 A D d o R W) (ha : (va, p.all) ∈ R) (hb : (vb, p.more) ∈ R) (hc : (vc, p.next) ∈ R) (hv : (v, ls) ∈ R) (hz : PSz p c) (hcc : c ≤ 1000000) (hf : p.found ls) :
    Calls Tryd.prog 17 #[.agg #[va, vb, vc, .bool p.other], v] W fun e w' => e = .returned (.bool true) ∧ RowKit.Below W.heap.size W w' := by
  have hl := hz.found hf
  have h1 := hz.am
  exact found_c p ls va vb vc v W (hS.rdl ha) (hS.rdl hb) (hS.rdl hc) (hS.rdl hv) (fun r hr => (show ∀ r ∈ p.all, Bytes r ∧ r.length ≤ 32768 from hz.ra) r hr |>.1) (fun r hr => (show ∀ r ∈ p.more, Bytes r ∧ r.length ≤ 32768 from hz.rm) r hr |>.1) (fun r hr => (show ∀ r ∈ p.next, Bytes r ∧ r.length ≤ 32768 from hz.rn) r hr |>.1) (fun r hr => (show ∀ r ∈ ls, Bytes r ∧ r.length ≤ 32768 from hl.1) r hr |>.1) (by omega) (by omega) (by omega) hf
/-- the law's s in memory -/
def SObj (s : StepV) : Obj := .cells #[.int .u8 s.a, s.lv, .int .u8 s.da, .int .i64 s.F, .int .i64 s.N, s.bv, .slice s.pp s.pl s.pc] 40
theorem sobj_cells {W : World} {S : Nat} {s : StepV} (h : W.heap[S]? = some (SObj s)) : W.cell? ⟨S, 0, none⟩ = some (.int .u8 s.a) ∧ W.cell? ⟨S, 1, none⟩ = some s.lv ∧ W.cell? ⟨S, 4, none⟩ = some (.int .i64 s.N) ∧ W.cell? ⟨S, 6, none⟩ = some (.slice s.pp s.pl s.pc) :=
  ⟨cell_of_row _ _ 0 _ _ _ h, cell_of_row _ _ 1 _ _ _ h, cell_of_row _ _ 4 _ _ _ h, cell_of_row _ _ 6 _ _ _ h⟩
end Go.Proofs.YtfohemgfiidokaaDoor
