/- look at a sound file: the loop over its records. -/
import Derived.Maps.AppendAt
import Derived.RangeFuncBox
import Derived.Test.YtfohemgfiidokaaGreatDoorLz
namespace Go.Proofs.YtfohemgfiidokaaGreatDoor
open Go.RowKit Go.Sort
attribute [local go_sem] Oper.semAt_some

theorem nxt_some {g k : Int} {b r t : List Int} (hb : Bytes b) (h : nxt g k b = some (r, t)) : ∃ z : Nat, ofBytes (b.take 4) = z ∧ z ≤ 32768 ∧ z + 36 ≤ b.length ∧ r = (b.take (z + 4)).drop 4 ∧ t = b.drop (z + 36) ∧ r.length = z ∧ fchk g k (b.take (z + 4)) = (b.drop (z + 4)).take 32 := by
  obtain ⟨z, hz⟩ := Int.eq_ofNat_of_zero_le (ofBytes_bd _ (hb.take 4)).1
  unfold nxt at h
  rw [hz, Int.toNat_natCast] at h
  split at h
  · cases h
  · split at h
    · cases h
    · rename_i h1 h2
      split at h
      · rename_i h3
        injection h with h
        injection h with e1 e2
        exact ⟨z, hz, by omega, by omega, e1.symm, e2.symm, by rw [← e1, List.length_drop, List.length_take]; omega, h3⟩
      · cases h
theorem sizeI_whole (g : Int) : ∀ (f : Nat) (k : Int) (b : List Int), Bytes b → sizeI (wholeF g f k b) ≤ b.length
  | 0, _, _, _ => Nat.zero_le _
  | f + 1, k, b, hb => by
    rw [wholeF]
    cases hn : nxt g k b with
    | none => exact Nat.zero_le _
    | some p =>
      obtain ⟨r, t⟩ := p
      obtain ⟨z, -, -, h2, -, ht, hr, -⟩ := nxt_some hb hn
      have := sizeI_whole g f (k + 1) t (by rw [ht]; exact hb.drop _)
      rw [ht, List.length_drop] at this
      simp only [sizeI]
      rw [ht]
      omega
theorem sizeI_prefix {l m : List (List Int)} (h : l <+: m) : sizeI l ≤ sizeI m := by
  obtain ⟨t, rfl⟩ := h
  rw [sizeI_append]; omega
theorem len_le_size : ∀ l : List (List Int), l.length ≤ sizeI l
  | [] => Nat.zero_le _
  | r :: t => by have := len_le_size t; simp only [sizeI, List.length_cons]; omega

theorem whole_c (p : Option Addr) (n c : Nat) (g : Int) (w : World) : Calls Tryz.prog 71 #[.slice p n c, .int .u64 g] w fun e w' => e = .returned (.func (.func 95) #[] #[.pointer (some ⟨w.heap.size, 0, none⟩), .pointer (some ⟨w.heap.size + 1, 0, none⟩)]) ∧ w' = (w.alloc (.cells #[.slice p n c] 40)).alloc (.cells #[.int .u64 g] 49) := by
  have hmf : ∀ (fn : Fn) (first cap : Array Value) (w : World), (Instr.makeFunc fn first cap).run Tryz.prog w = .ok (.func fn first cap) w := fun _ _ _ _ => rfl
  go_enter Tryz.func71, Tryz.ntmps71
  go_wp2
  go_ret
  exact ⟨rfl, rfl⟩
theorem Tryz.info40 : (Tryz.prog.info? 40).map (fun i => (i.zero, i.size, i.bytes)) = some (some (.slice none 0 0), 1, 24) := by kernel_rfl

theorem FrL.keep {w w' : World} {B : Nat} {v : Value} {ls : List (List Int)} (h : FrL w B v ls) (hk : ∀ g : Nat, B ≤ g → (∃ o : Obj, w.heap[g]? = some o ∧ o.isCells = true) → w'.heap[g]? = w.heap[g]?) : FrL w' B v ls := by
  obtain ⟨vs, h1, h2⟩ := h
  have row : ∀ {e : TypeId} {v : Value} {n : Nat} {xs : List Value}, w.ownsRow B e 1 v n xs → w'.ownsRow B e 1 v n xs := fun {e v n xs} hr => by
    obtain ⟨e1, ⟨e2, e3⟩ | ⟨g, cap, cur, e2, e3, e4, e5⟩⟩ := hr
    · exact ⟨e1, .inl ⟨e2, e3⟩⟩
    · exact ⟨e1, .inr ⟨g, cap, cur, e2, e3, by rw [hk g e3 ⟨_, e4, rfl⟩]; exact e4, e5⟩⟩
  exact ⟨vs, row h1, fun j hj => by obtain ⟨u, h3, h4⟩ := h2 j hj; exact ⟨u, h3, row h4⟩⟩
theorem FrL.down {w : World} {B C : Nat} {v : Value} {ls : List (List Int)} (h : FrL w B v ls) (hc : C ≤ B) : FrL w C v ls := by
  obtain ⟨vs, h1, h2⟩ := h
  refine ⟨vs, ⟨h1.1, ?_⟩, fun j hj => by obtain ⟨u, h3, h4⟩ := h2 j hj; exact ⟨u, h3, h4.down hc⟩⟩
  rcases h1.2 with q | ⟨g, cap, cur, e1, e2, e3⟩
  · exact .inl q
  · exact .inr ⟨g, cap, cur, e1, by omega, e3⟩
theorem FrL.nil (w : World) (B : Nat) : FrL w B (.slice none 0 0) [] := ⟨[], World.ownsRow_nil _ _ _ _, fun j hj => by simp at hj⟩

theorem RowV.own {T : TypeId} {g : Nat} {vs : List Value} {W W' : World} {row : Option Nat} (h : RowV T g vs W) (hg : W.grownBy W' row) (hr : ∀ r, row = some r → ∃ o : Obj, W.heap[r]? = some o ∧ o.isCells = false) : RowV T g vs W' := (grownBy_keeps_cells hg hr h rfl).trans h
theorem rowO_own {W W' : World} {B : Nat} {v : Value} {xs : List Int} {row : Option Nat} (h : RowO W B v xs) (hg : W.grownBy W' row) (hr : ∀ r, row = some r → ∃ o : Obj, W.heap[r]? = some o ∧ o.isCells = false) : RowO W' B v xs := by
  obtain ⟨e1, ⟨e2, e3⟩ | ⟨g, cap, cur, e2, e3, e4, e5⟩⟩ := h
  · exact ⟨e1, .inl ⟨e2, e3⟩⟩
  · exact ⟨e1, .inr ⟨g, cap, cur, e2, e3, by rw [grownBy_keeps_cells hg hr e4 rfl]; exact e4, e5⟩⟩
/-- a row is added to the call's own -/
theorem FrL.snoc {W W1 : World} {B : Nat} {vs : List Value} {rv v' u : Value} {ls : List (List Int)} {r : List Int} (h1 : W.ownsRow B 40 1 rv ls.length vs) (h2 : ∀ j (h : j < ls.length), ∃ u, vs[j]? = some u ∧ RowO W B u ls[j]) (hu : RowO W B u r)
    (hown : W1.ownsRow B 40 1 v' (ls.length + 1) (vs ++ [u])) (hg : W.grownBy W1 rv.ownBlock) : FrL W1 B v' (ls ++ [r]) := by
  have row : ∀ {u : Value} {xs : List Int}, RowO W B u xs → RowO W1 B u xs := fun {u xs} hr => by
    obtain ⟨e1, ⟨e2, e3⟩ | ⟨g, cap, cur, e2, e3, e4, e5⟩⟩ := hr
    · exact ⟨e1, .inl ⟨e2, e3⟩⟩
    · refine ⟨e1, .inr ⟨g, cap, cur, e2, e3, ?_, e5⟩⟩
      rw [hg.block g (Array.getElem?_eq_some_iff.1 e4).1 fun e => ?_]
      · exact e4
      · rcases h1.2 with ⟨q1, -⟩ | ⟨g2, cap2, cur2, q1, -, q3, -⟩
        · rw [q1] at e; cases e
        · rw [q1] at e
          injection e with e
          rw [e, q3] at e4
          injection e4 with e4
          injection e4 with a1 a2 a3
          exact absurd a2 (by decide)
  have hvl : vs.length = ls.length := by have := h1.1; omega
  refine ⟨vs ++ [u], by rw [List.length_append]; exact hown, fun j hj => ?_⟩
  by_cases hlt : j < ls.length
  · obtain ⟨x, h3, h4⟩ := h2 j hlt
    exact ⟨x, by rw [List.getElem?_append_left (by omega)]; exact h3, by rw [List.getElem_append_left hlt]; exact row h4⟩
  · have hje : j = ls.length := by simp at hj; omega
    subst hje
    exact ⟨u, by rw [List.getElem?_append_right (by omega), hvl, Nat.sub_self]; rfl, by rw [List.getElem_append_right (Nat.le_refl _)]; simpa using row hu⟩

theorem RowV.grown {T e : TypeId} {g base size k : Nat} {vs xs : List Value} {rv : Value} {W W1 : World} (h : RowV T g vs W) (hne : T ≠ e) (ho : W.ownsRow base e size rv k xs) (hg : W.grownBy W1 rv.ownBlock) : RowV T g vs W1 := by
  refine (hg.block g h.lt fun e1 => ?_).trans h
  rcases ho.2 with ⟨q1, -⟩ | ⟨g2, cap2, cur2, q1, -, q3, -⟩
  · rw [q1] at e1; cases e1
  · rw [q1] at e1
    injection e1 with e1
    have h' : W.heap[g]? = _ := h
    rw [e1, q3] at h'
    injection h' with h'
    injection h' with a1 a2 a3
    exact hne a2.symm

/-- what the loop of look has laid so far -/
def LkI (w : World) (X B : Nat) (f gg : Int) (pre : List (List Int)) (W : World) : Prop :=
  ∃ rv, RowV 82 X [.int .i64 f, .int .u64 gg, rv, .int .i64 ((44 + sizeI pre : Nat) : Int)] W ∧ FrL W B rv pre ∧
    RowV 82 w.heap.size [.int .i64 0, .int .u64 0, .slice none 0 0, .int .i64 0] W ∧ RowKit.Below w.heap.size w W ∧ B ≤ W.heap.size
def LkK (n0 bx : Nat) (A B : World) : Prop := RowKit.Below n0 A B ∧ B.heap[bx]? = A.heap[bx]? ∧ B.heap[bx + 1]? = A.heap[bx + 1]?
theorem LkK.trans {n0 bx : Nat} {A B C : World} (h : LkK n0 bx A B) (k : LkK n0 bx B C) : LkK n0 bx A C := ⟨h.1.trans k.1, k.2.1.trans h.2.1, k.2.2.trans h.2.2⟩
theorem lkI_own {w : World} {X B : Nat} {f gg : Int} (hw : w.heap.size ≤ B) : OwnFrom B (LkI w X B f gg) := by
  rintro s W W' row ⟨rv, q0, hF, q1, hb, hB⟩ hg hr
  have hr2 := fun r e => (hr r e).2
  refine ⟨rv, q0.own hg hr2, hF.keep fun g _ ⟨o, h1, h2⟩ => grownBy_keeps_cells hg hr2 h1 h2, q1.own hg hr2, ?_, Nat.le_trans hB hg.size⟩
  exact hb.grown hg (by have := hb.size; omega) fun k e => Nat.le_trans hw (hr k e).1
theorem lkI_set {w : World} {X B bx : Nat} {f gg : Int} (hX : X < bx) (hw : w.heap.size < bx) (hB : bx < B) (s : List (List Int)) (A : World) (v : Value) (h : LkI w X B f gg s A) : LkI w X B f gg s (A.setCell ⟨bx, 0, none⟩ v) := by
  obtain ⟨rv, q0, hF, q1, hb, hB2⟩ := h
  exact ⟨rv, q0.set_other (by omega) v, hF.keep fun g hg _ => set_heap (by omega), q1.set_other (by omega) v, hb.setCell (p := ⟨bx, 0, none⟩) (Nat.le_of_lt hw) v, by rw [set_size]; exact hB2⟩

theorem RowV.drew {T : TypeId} {g : Nat} {vs : List Value} {w : World} (h : RowV T g vs w) : RowV T g vs w.drew := h
theorem FrL.drew {w : World} {B : Nat} {v : Value} {ls : List (List Int)} (h : FrL w B v ls) : FrL w.drew B v ls := h
theorem leavesM_gen {F : Fence} {n : Nat} {P : Program} {fn : Func} {tmps : Array Value} {R : Ending → World → Prop} {W0 : World} (Φ : World → Prop) (h0 : Φ W0) (h : ∀ W, Φ W → LeavesInM F n P fn tmps R [] .returning W) : LeavesInM F n P fn tmps R [] .returning W0 := h W0 h0
theorem FrL.shape {w : World} {B : Nat} {v : Value} {ls : List (List Int)} (h : FrL w B v ls) : ∃ p c, v = .slice p ls.length c := by
  obtain ⟨vs, h1, h2⟩ := h
  rcases h1.2 with ⟨q1, q2⟩ | ⟨g, cap, cur, q1, -⟩
  · exact ⟨_, _, by rw [q1, q2]⟩
  · exact ⟨_, _, q1⟩
theorem lk_round {w W2 w1 : World} {X B bx : Nat} {f gg z : Int} {pre : List (List Int)} {r : List Int} {rv v' u : Value} {vs : List Value} (hwX : w.heap.size < X) (hX : X < bx) (hB : bx + 1 < B)
    (p0 : RowV 82 X [.int .i64 f, .int .u64 gg, rv, .int .i64 ((44 + sizeI pre : Nat) : Int)] W2) (ho : W2.ownsRow B 40 1 rv pre.length vs) (hel : ∀ j (h : j < pre.length), ∃ u, vs[j]? = some u ∧ RowO W2 B u pre[j])
    (p1 : RowV 82 w.heap.size [.int .i64 0, .int .u64 0, .slice none 0 0, .int .i64 0] W2) (hb : RowKit.Below w.heap.size w W2) (hBs : B ≤ W2.heap.size) (hu : RowO W2 B u r)
    (hown : w1.ownsRow B 40 1 v' (pre.length + 1) (vs ++ [u])) (hgrow : (W2.alloc (.cells #[u] 40)).grownBy w1 rv.ownBlock) (hz : z = ((44 + sizeI (pre ++ [r]) : Nat) : Int)) :
    KeepsFrom B W2 ((w1.setCell ⟨X, 2, none⟩ v').setCell ⟨X, 3, none⟩ (.int .i64 z)) ∧ LkK w.heap.size bx W2 ((w1.setCell ⟨X, 2, none⟩ v').setCell ⟨X, 3, none⟩ (.int .i64 z)) ∧ LkI w X B f gg (pre ++ [r]) ((w1.setCell ⟨X, 2, none⟩ v').setCell ⟨X, 3, none⟩ (.int .i64 z)) := by
  subst hz
  have ho2 := ownsRow_alloc ho (.cells #[u] 40)
  have hown0 : ∀ g, rv.ownBlock = some g → B ≤ g := fun g hg => (ho.lt g hg).1
  have blk : ∀ k, k < B → k ≠ X → ((w1.setCell ⟨X, 2, none⟩ v').setCell ⟨X, 3, none⟩ (.int .i64 ((44 + sizeI (pre ++ [r]) : Nat) : Int))).heap[k]? = W2.heap[k]? := fun k hk hne => by
    rw [set_heap hne, set_heap hne, hgrow.block k (by simp; omega) (fun e => by have := hown0 k e.symm; omega)]
    exact Below.heap_alloc _ _ _ (by omega)
  have hsz : W2.heap.size + 1 ≤ w1.heap.size := by have := hgrow.size; simpa using this
  have hbl : RowKit.Below w.heap.size W2 ((w1.setCell ⟨X, 2, none⟩ v').setCell ⟨X, 3, none⟩ (.int .i64 ((44 + sizeI (pre ++ [r]) : Nat) : Int))) :=
    ((((RowKit.Below.refl w.heap.size W2).alloc hb.size (.cells #[u] 40)).grown hgrow (by have := hb.size; simp; omega) fun k e => by have := hown0 k e; omega).setCell (p := ⟨X, 2, none⟩) (Nat.le_of_lt hwX) v').setCell (p := ⟨X, 3, none⟩) (Nat.le_of_lt hwX) _
  refine ⟨?_, ⟨hbl, blk bx (by omega) (by omega), blk (bx + 1) (by omega) (by omega)⟩, v', ?_, ?_, ?_, hb.trans hbl, by rw [set_size, set_size]; omega⟩
  · refine ((((KeepsOthers.alloc W2 (.cells #[u] 40)).trans (KeepsOthers.of_grownBy hgrow fun j o ej hj => ?_)).trans (KeepsOthers.setCell _ _ _)).trans (KeepsOthers.setCell _ _ _)).from B
    rcases ho2.2 with ⟨q1, -⟩ | ⟨g, cap, cur, q1, -, q3, -⟩
    · rw [q1] at ej; cases ej
    · rw [q1] at ej
      injection ej with ej
      rw [← ej, q3] at hj; cases hj; rfl
  · exact (((p0.alloc _).grown (by decide) ho2 hgrow).set 2 v').set 3 (.int .i64 ((44 + sizeI (pre ++ [r]) : Nat) : Int))
  · refine (FrL.snoc ho2 (fun j hj => by obtain ⟨x, h1, h2⟩ := hel j hj; exact ⟨x, h1, ownsRow_alloc h2 _⟩) (ownsRow_alloc hu _) hown hgrow).keep fun g hg _ => ?_
    rw [set_heap (by omega), set_heap (by omega)]
  · exact (((p1.alloc _).grown (by decide) ho2 hgrow).set_other (by omega) v').set_other (by omega) _

set_option maxRecDepth 100000 in
set_option maxHeartbeats 3200000 in
theorem look_d (f : Int) (v : Value) (b : List Int) (w : World) (hv : RdB w v b) (hbb : Bytes b) (h44 : 44 ≤ b.length) (hl : b.length ≤ 10000000) (hk : KTab w) (hc : chk (b.take 12) = (b.drop 12).take 32)
    (hg1 : 1 ≤ ofBytes (b.take 8)) (hg2 : ofBytes (b.take 8) ≤ 4611686018427387904) (hgf : ofBytes (b.take 8) % 2 = f) :
    Calls Tryz.prog 29 #[.int .i64 f, v] w fun e w' => RowKit.Below w.heap.size w w' ∧
      (((wholeI (ofBytes (b.take 8)) (b.drop 44)).length : Int) < ofBytes ((b.drop 8).take 4) → e = .returned fnd0) ∧
      (ofBytes ((b.drop 8).take 4) ≤ ((wholeI (ofBytes (b.take 8)) (b.drop 44)).length : Int) → ∃ rv, e = .returned (.agg #[.int .i64 f, .int .u64 (ofBytes (b.take 8)), rv, .int .i64 (44 + sizeI (wholeI (ofBytes (b.take 8)) (b.drop 44)))]) ∧ FrL w' w.heap.size rv (wholeI (ofBytes (b.take 8)) (b.drop 44))) := by
  obtain ⟨gg, hgg⟩ : ∃ gg, ofBytes (b.take 8) = gg := ⟨_, rfl⟩
  obtain ⟨g, o, cap, hp⟩ := hv.parts (by omega)
  obtain rfl := hp.val
  have hcap := hp.cap
  have hq : decide ((b.length : Int) < 44) = false := decide_eq_false (by omega)
  have h12 := hp.rd 0 12 cap (by omega) (by omega)
  have h8 := hp.rd 0 8 cap (by omega) (by omega)
  rw [Nat.add_zero, List.drop_zero] at h12 h8
  have h32 := hp.rd 12 32 (cap - 12) (by omega) (by omega)
  have hch := fun V (hV : RowKit.Below w.heap.size w V) => check_c (.slice (some ⟨g, o, none⟩) 12 cap) (b.take 12) V (h12 V hV) (hbb.take 12) (by rw [List.length_take]; omega) (hk.call hV)
  have heq := fun V v (h1 : RdB V v (chk (b.take 12))) (hV : RowKit.Below w.heap.size w V) => equal_c v (.slice (some ⟨g, o + 12, none⟩) 32 (cap - 12)) _ _ V h1 (h32 V hV) (chk_bytes _) ((hbb.drop 12).take 32)
  rw [show (chk (b.take 12) == (b.drop 12).take 32) = true by rw [beq_iff_eq]; exact hc] at heq
  have hnum := fun V (hV : RowKit.Below w.heap.size w V) => number_c (.slice (some ⟨g, o, none⟩) 8 cap) (b.take 8) V (h8 V hV) (hbb.take 8) (by rw [List.length_take]; omega)
  have hbd := ofBytes_bd _ (hbb.take 8)
  rw [show (b.take 8).length = 8 by rw [List.length_take]; omega] at hbd
  generalize chk (b.take 12) = q at *
  rw [hgg] at hg1 hg2 hgf hbd hnum ⊢
  obtain ⟨rs, hrs⟩ : ∃ rs, wholeI gg (b.drop 44) = rs := ⟨_, rfl⟩
  have hrsz : sizeI rs ≤ 10000000 := by
    rw [← hrs]
    have := sizeI_whole gg (b.drop 44).length 0 (b.drop 44) (hbb.drop 44)
    rw [List.length_drop] at this
    unfold wholeI
    rw [List.length_drop]
    omega
  have HRS := Lib.hid hrs
  rw [hrs]
  clear hrs
  have h44r := hp.rd 44 (b.length - 44) (cap - 44) (by omega) (by omega)
  have h84 := hp.rd 8 4 (cap - 8) (by omega) (by omega)
  have HC := Lib.hid hch; have HE := Lib.hid heq; have HN := Lib.hid hnum
  have hcn : ¬ cap = 12 := by omega
  have hx1 : (12 : Int) ≤ cap := by omega
  have hx2 : (44 : Int) ≤ cap := by omega
  have hge : (44 : Int) ≤ b.length := by omega
  have hx3 : (8 : Int) ≤ cap := by omega
  have hn44 : 44 ≤ b.length := h44
  have HD := Lib.hid hbd
  obtain ⟨nn, hnn⟩ : ∃ nn, ofBytes ((b.drop 8).take 4) = nn := ⟨_, rfl⟩
  have hnb := ofBytes_bd _ ((hbb.drop 8).take 4)
  rw [show ((b.drop 8).take 4).length = 4 by rw [List.length_take, List.length_drop]; omega, hnn] at hnb
  have hnum2 := fun V (hV : RowKit.Below w.heap.size w V) => number_c (.slice (some ⟨g, o + 8, none⟩) 4 (cap - 8)) ((b.drop 8).take 4) V (h84 V hV) ((hbb.drop 8).take 4) (by rw [List.length_take, List.length_drop]; omega)
  rw [hnn] at hnum2 ⊢
  have HN2 := Lib.hid hnum2
  have HNB := Lib.hid hnb
  clear hnum2 hnb hnn
  have HK := Lib.hid hk
  have HBB := Lib.hid hbb
  clear hch heq h12 h32 h8 hp hc hv hk h44 hnum hbd
  refine (callsIn_wide (n := 4)).1 ?_
  refine callsIn_of_wp_marks Tryz.func29 rfl trivial ?_ rfl
  simp only [Tryz.ntmps29, List.size_toArray, List.length_cons, List.length_nil, Nat.reduceAdd, Nat.reduceSub, Array.replicate_succ, Array.replicate_zero, List.push_toArray, List.append_toArray, List.nil_append, List.cons_append]
  refine wpIn_wide.2 ?_
  go_upto_region 1 with fail
  refine wp_gen (fun W => RowV 82 w.heap.size [.int .i64 0, .int .u64 0, .slice none 0 0, .int .i64 0] W ∧ RowKit.Below w.heap.size w W) ⟨heap_alloc_new w _, bel_alloc (RowKit.Below.refl _ _) _⟩ ?_
  rintro W ⟨hrow, hbw⟩
  have hb0 : RowKit.Below w.heap.size w W.drew := hbw.drew
  go_region_held3 (fun _ => True) (trivial) (first
    | (go_at_call 69; (with_reducible refine (HC.out _ hb0).mono ?_); rintro e w1 ⟨v1, rfl, hr1, hb1⟩; have hb2 := bel_call hb0 hb1)
    | (go_at_call 68; (with_reducible refine (HE.out _ _ hr1 hb2).mono ?_); rintro e w2 ⟨rfl, rfl⟩))
  have hrow1 : RowV 82 w.heap.size [.int .i64 0, .int .u64 0, .slice none 0 0, .int .i64 0] w2 := RowV.call (w := W.drew) hrow hb1
  have hlt01 := hrow1.lt
  go_upto_region 4 with (go_at_call 70; (with_reducible refine (HN.out _ hb2).mono ?_); rintro e w3 ⟨rfl, hw3⟩; obtain rfl := hw3.symm)
  refine wp_gen (fun W3 => RowV 82 w2.heap.size [.int .i64 f, .int .u64 gg, .slice none 0 0, .int .i64 44] W3 ∧ RowV 82 w.heap.size [.int .i64 0, .int .u64 0, .slice none 0 0, .int .i64 0] W3 ∧ RowKit.Below w.heap.size w W3) ⟨heap_alloc_new w2 _, hrow1.alloc _, bel_alloc hb2 _⟩ ?_
  clear hrow hrow1 hr1 hb1
  rintro W3 ⟨r0, r1, hb3⟩
  have x1 := r0.cell 1
  simp only [List.getElem?_cons_zero, List.getElem?_cons_succ] at x1
  have c0 := r1.cell 0
  have c1 := r1.cell 1
  have c2 := r1.cell 2
  have c3 := r1.cell 3
  have z := r1.frozen
  have hd1 : decide (gg < 1) = false := decide_eq_false (by omega)
  have hd2 : decide (4611686018427387904 < gg) = false := decide_eq_false (by omega)
  have h3 : (gg % 2 == f) = true := by rw [beq_iff_eq]; exact hgf
  have hw2 : IntKind.i64.wrap (gg % 2) = gg % 2 := by rw [IntKind.wrap_i64]; omega
  have hg0 : 0 ≤ gg := by omega
  have HG := Lib.hid (And.intro hg1 (And.intro hg2 hgf))
  clear hg1 hg2 hgf
  go_upto_region 6 with fail
  have hx4 : (44 : Int) ≤ b.length := by omega
  have hwh := fun p V => whole_c p (b.length - 44) (cap - 44) gg V
  have x1d : W3.drew.cell? ⟨w2.heap.size, 1, none⟩ = some (.int .u64 gg) := x1
  obtain ⟨A, hA⟩ : ∃ A, (if cap = 44 then some (⟨g, o, none⟩ : Addr) else some ⟨g, o + 44, none⟩) = A := ⟨_, rfl⟩
  go_region_held3 (fun W => W.cell? ⟨w2.heap.size, 1, none⟩ = some (.int .u64 gg)) (go_keep) (first
    | (go_at_call 71; (with_reducible refine (hwh _ _).mono ?_); rintro e w4 ⟨rfl, hw4⟩))
  go_wp2_with fail
  have hAr : ∀ V, RowKit.Below w.heap.size w V → RdB V (.slice A (b.length - 44) (cap - 44)) (b.drop 44) := fun V hV => by
    have h := h44r V hV
    rw [List.take_of_length_le (by rw [List.length_drop]; exact Nat.le_refl _)] at h
    rw [← hA]
    by_cases hce : cap = 44
    · rw [if_pos hce]
      have hy0 : b.drop 44 = [] := List.drop_eq_nil_iff.2 (by omega)
      rw [hy0, show b.length - 44 = 0 by omega]
      exact .inr ⟨_, g, o, _, rfl, by simp, fun h => by simp at h, fun j hj => by simp at hj⟩
    · rw [if_neg hce]; exact h
  have r0s := r0.lt
  have r1s := r1.lt
  refine wp_gen (fun WL => WL.heap.size = W3.heap.size + 2 ∧ RowV 82 w2.heap.size [.int .i64 f, .int .u64 gg, .slice none 0 0, .int .i64 44] WL ∧ RowV 82 w.heap.size [.int .i64 0, .int .u64 0, .slice none 0 0, .int .i64 0] WL ∧ RowKit.Below w.heap.size w WL ∧
    WL.cell? ⟨W3.heap.size, 0, none⟩ = some (.slice A (b.length - 44) (cap - 44)) ∧ WL.frozen? ⟨W3.heap.size, 0, none⟩ = false ∧ WL.cell? ⟨W3.heap.size + 1, 0, none⟩ = some (.int .u64 gg)) ⟨?_, (r0.alloc _).alloc _, (r1.alloc _).alloc _, (bel_alloc (bel_alloc hb3 _) _).drew, ?_, ?_, ?_⟩ ?_
  · simp [World.drew]
  · simp [go_sem]
  · simp [go_sem]
  · simp [go_sem]
  rintro WL ⟨hsz, q0, q1, hbL, cxL, zxL, cgL⟩
  obtain ⟨i0, hi, hz0, hz1, hz2⟩ := info_parts Tryz.info40
  have HSZ := Lib.hid hsz
  rename_i K0 ha hhd
  have HA := Lib.hid ha
  clear ha hhd
  refine (wpIn_wide (n := 4)).1 ?_
  refine rangeFunc_st (F := Fence.wide) rfl (by omega) (gf := 95) (lb := #[.pointer (some ⟨W3.heap.size, 0, none⟩), .pointer (some ⟨W3.heap.size + 1, 0, none⟩)]) rfl trivial (enters_of Tryz.func95 (by kernel_rfl) rfl) rfl
    W3.heap.size rs (fun W v r => RowO W WL.heap.size v r) (LkK w.heap.size W3.heap.size) ?seq LkK.trans ?kb ?rd (LkI w w2.heap.size WL.heap.size f gg) (lkI_own hbL.size) (lkI_set (by omega) (by omega) (by omega)) (by omega) ⟨_, q0, FrL.nil _ _, q1, hbL, Nat.le_refl _⟩ ?round ?done
  case seq =>
    intro l J W hW hJ hJs hY hJ0
    have hbW : RowKit.Below w.heap.size w W := bel_call hbL hW
    rw [← HRS.out]
    exact whole1_c 3 l W3.heap.size (W3.heap.size + 1) w.heap.size gg w rfl J (LkK w.heap.size W3.heap.size) WL.heap.size 10000000 (by have := hb3.size; omega) (by omega) (by omega) HK.out
      (fun s A B h hb => hJ s A B none h ⟨hb.os, hb.tape, hb.output, hb.size, fun k hk _ => hb.block k hk⟩ (fun r e => by cases e)) hJs (fun A B h => h) W hW.size _ (b.drop 44) hbW (hAr w (RowKit.Below.refl _ _)) (HBB.out.drop 44) (by rw [List.length_drop]; omega)
      ((hW.cell (p := ⟨W3.heap.size, 0, none⟩) (show W3.heap.size < WL.heap.size by omega)).trans cxL) ((World.frozen?_of_block (hW.block W3.heap.size (by omega))).trans zxL) ((hW.cell (p := ⟨W3.heap.size + 1, 0, none⟩) (show W3.heap.size + 1 < WL.heap.size by omega)).trans cgL) hJ0
      (fun pre r v W1 h1 h2 h3 => hY pre r v W1 h1 h2 (by rw [HRS.out] at h3; exact h3))
  case kb =>
    intro W l o o' hl ho hc
    exact ⟨⟨rfl, rfl, rfl, by simp [World.putObj], fun k hk => World.putObj_heap_other (by have := hbL.size; omega)⟩, World.putObj_heap_other (by omega), World.putObj_heap_other (by omega)⟩
  case rd =>
    intro W l o o' v r h ho hc
    exact rowO_own h (grownBy_putObj' W l o') fun r e => by cases e; exact ⟨o, ho, hc⟩
  case round =>
    intro l pre r v W hI hR hpre
    have hsz2 := sizeI_prefix hpre
    rw [sizeI_append] at hsz2
    have hln := len_le_size pre
    clear hsz
    gi_wp2
    refine ⟨trivial, fun W2 hI2 hR2 => ?_⟩
    obtain ⟨rv, p0, hF, p1, hb, hB⟩ := hI2
    obtain ⟨vs, ho, hel⟩ := hF
    obtain ⟨pp, pc, rfl, -⟩ := hR2.rd.shape
    have x2 := p0.cell 2
    have x3 := p0.cell 3
    have z0 := p0.frozen
    simp only [List.getElem?_cons_zero, List.getElem?_cons_succ] at x2 x3
    simp only [sizeI] at hsz2
    have hWL := hbL.size
    have hX : w2.heap.size < W3.heap.size := by omega
    have hk1 : ∀ u ∈ [Value.slice pp r.length pc], u.oneCell' = true := by simp [Value.oneCell']
    have hk2 : pre.length + 1 ≤ maxLen := by unfold maxLen; omega
    have hk3 : (pre.length + 1) * 24 ≤ 140737488355328 := by omega
    have hk4 : WL.heap.size ≤ (W2.alloc (.cells #[.slice pp r.length pc] 40)).heap.size := by simp; omega
    gi_wp2_with (gi_at_builtin; go_loud (refine wpListIn_append_own _ rfl _ _ 39 rfl WL.heap.size 40 i0 (.slice none 0 0) 1 24 Tryz.underlying39 hi hz0 hz1 hz2 rfl (by decide) _ pre.length vs rfl (ownsRow_alloc ho _) ⟨W2.heap.size, 0, none⟩ 1 1 [.slice pp r.length pc] rfl rfl (cell_one_new _ _ _) hk1 hk2 hk3 hk4 ?_); intro v' w1 hown' hgrow _; obtain ⟨g', cap', rfl⟩ := ownsRow_succ hown'; have p2 := (p0.alloc (.cells #[.slice pp r.length pc] 40)).grown (by decide) (ownsRow_alloc ho _) hgrow; have y2 := p2.cell 2; have y3 := p2.cell 3; have zz := p2.frozen; simp only [List.getElem?_cons_zero, List.getElem?_cons_succ] at y2 y3)
    have hgr : (W2.alloc (.cells #[.slice pp r.length pc] 40)).grownBy w1 rv.ownBlock := hgrow
    exact lk_round hlt01 hX (by have := HSZ.out; omega) p0 ho hel p1 hb hB hR2 hown' hgr (by rw [sizeI_append]; simp only [sizeI]; omega)
  case done =>
    rintro D W hD ⟨rv, p0, hF, p1, hb, hB⟩ hK'
    obtain ⟨rp, rc, rfl⟩ := hF.shape
    have hrl := Nat.le_trans (len_le_size rs) hrsz
    have x0 := p0.cell 0
    have x1 := p0.cell 1
    have x2 := p0.cell 2
    have x3 := p0.cell 3
    simp only [List.getElem?_cons_zero, List.getElem?_cons_succ] at x0 x1 x2 x3
    have hDn : D ≠ w.heap.size := by omega
    have hbd : RowKit.Below w.heap.size w W.drew := hb.drew
    have x2d : W.drew.cell? ⟨w2.heap.size, 2, none⟩ = some (.slice rp rs.length rc) := x2
    have c0 := p1.cell 0
    have c1 := p1.cell 1
    have c2 := p1.cell 2
    have c3 := p1.cell 3
    have z := p1.frozen
    have hcu : IntKind.u64.wrap (rs.length : Int) = rs.length := by rw [IntKind.wrap_u64]; omega
    have hc8 : ¬ cap = 8 := by omega
    have hx5 : (8 : Int) ≤ cap := by omega
    have hx6 : (12 : Int) ≤ cap := by omega
    refine HA.out _ _ ?_
    dsimp only
    by_cases hlt : (rs.length : Int) < nn
    · have hd : decide ((rs.length : Int) < nn) = true := decide_eq_true hlt
      go_upto_region 10 with fail
      go_region_held3 (fun V => V.cell? ⟨w2.heap.size, 2, none⟩ = some (.slice rp rs.length rc)) (go_keep) (first
        | (go_at_call 70; (with_reducible refine (HN2.out _ hbd).mono ?_); rintro e w5 ⟨rfl, hw5⟩; obtain rfl := hw5.symm))
      go_wp2
      refine ⟨by simp, .inl ⟨_, _, rfl, run_takeDeferred (ds := []) ?_, ?_⟩⟩
      · show ((((W.setCell _ _).setCell _ _).setCell _ _).setCell _ _).heap[D]? = _
        rw [set_heap hDn, set_heap hDn, set_heap hDn, set_heap hDn]; exact hK'
      · have hr5 := (((p1.set 0 (.int .i64 0)).set 1 (.int .u64 0)).set 2 (.slice none 0 0)).set 3 (.int .i64 0)
        have hb5 := (((hb.setCell (p := ⟨w.heap.size, 0, none⟩) (Nat.le_refl _) (.int .i64 0)).setCell (p := ⟨w.heap.size, 1, none⟩) (Nat.le_refl _) (.int .u64 0)).setCell (p := ⟨w.heap.size, 2, none⟩) (Nat.le_refl _) (.slice none 0 0)).setCell (p := ⟨w.heap.size, 3, none⟩) (Nat.le_refl _) (.int .i64 0)
        have hD5 : ((((W.setCell ⟨w.heap.size, 0, none⟩ (.int .i64 0)).setCell ⟨w.heap.size, 1, none⟩ (.int .u64 0)).setCell ⟨w.heap.size, 2, none⟩ (.slice none 0 0)).setCell ⟨w.heap.size, 3, none⟩ (.int .i64 0)).heap[D]? = some (.deferred (some [])) := by
          rw [set_heap hDn, set_heap hDn, set_heap hDn, set_heap hDn]; exact hK'
        have hF5 : FrL ((((W.setCell ⟨w.heap.size, 0, none⟩ (.int .i64 0)).setCell ⟨w.heap.size, 1, none⟩ (.int .u64 0)).setCell ⟨w.heap.size, 2, none⟩ (.slice none 0 0)).setCell ⟨w.heap.size, 3, none⟩ (.int .i64 0)) WL.heap.size (.slice rp rs.length rc) rs := hF.keep fun g hg _ => by
          rw [set_heap (by omega), set_heap (by omega), set_heap (by omega), set_heap (by omega)]
        have hg := grownBy_putObj' (World.drew ((((W.setCell ⟨w.heap.size, 0, none⟩ (.int .i64 0)).setCell ⟨w.heap.size, 1, none⟩ (.int .u64 0)).setCell ⟨w.heap.size, 2, none⟩ (.slice none 0 0)).setCell ⟨w.heap.size, 3, none⟩ (.int .i64 0))) D (.deferred none)
        have hr6 : RowV 82 w.heap.size [.int .i64 0, .int .u64 0, .slice none 0 0, .int .i64 0] _ := RowV.own hr5.drew hg fun r e => by cases e; exact ⟨_, hD5, rfl⟩
        have hF6 : FrL _ WL.heap.size (.slice rp rs.length rc) rs := hF5.drew.keep fun g hg2 ⟨o2, h1, h2⟩ => grownBy_keeps_cells hg (fun r e => by cases e; exact ⟨_, hD5, rfl⟩) h1 h2
        have hb6 := hb5.drew.grown hg (by have := hb5.drew.size; omega) fun k e => by cases e; omega
        refine leavesM_gen (fun Wf => RowV 82 w.heap.size [.int .i64 0, .int .u64 0, .slice none 0 0, .int .i64 0] Wf ∧ FrL Wf WL.heap.size (.slice rp rs.length rc) rs ∧ RowKit.Below w.heap.size w Wf) ⟨hr6, hF6, hb6⟩ ?_
        rintro Wf ⟨hr7, hF7, hb7⟩
        have d0 := hr7.cell 0
        have d1 := hr7.cell 1
        have d2 := hr7.cell 2
        have d3 := hr7.cell 3
        simp only [List.getElem?_cons_zero, List.getElem?_cons_succ] at d0 d1 d2 d3
        refine ⟨fnd0, ?_, hb7, fun _ => rfl, fun h => absurd h (by omega)⟩
        simp [results, Tryz.f29, go_sem, d0, d1, d2, d3]
        rfl
    · have hd : decide ((rs.length : Int) < nn) = false := decide_eq_false hlt
      go_upto_region 10 with fail
      go_region_held3 (fun V => V.cell? ⟨w2.heap.size, 2, none⟩ = some (.slice rp rs.length rc)) (go_keep) (first
        | (go_at_call 70; (with_reducible refine (HN2.out _ hbd).mono ?_); rintro e w5 ⟨rfl, hw5⟩; obtain rfl := hw5.symm))
      go_wp2
      refine ⟨by simp, .inl ⟨_, _, rfl, run_takeDeferred (ds := []) ?_, ?_⟩⟩
      · show ((((W.setCell _ _).setCell _ _).setCell _ _).setCell _ _).heap[D]? = _
        rw [set_heap hDn, set_heap hDn, set_heap hDn, set_heap hDn]; exact hK'
      · have hr5 := (((p1.set 0 (.int .i64 f)).set 1 (.int .u64 gg)).set 2 (.slice rp rs.length rc)).set 3 (.int .i64 ((44 + sizeI rs : Nat) : Int))
        have hb5 := (((hb.setCell (p := ⟨w.heap.size, 0, none⟩) (Nat.le_refl _) (.int .i64 f)).setCell (p := ⟨w.heap.size, 1, none⟩) (Nat.le_refl _) (.int .u64 gg)).setCell (p := ⟨w.heap.size, 2, none⟩) (Nat.le_refl _) (.slice rp rs.length rc)).setCell (p := ⟨w.heap.size, 3, none⟩) (Nat.le_refl _) (.int .i64 ((44 + sizeI rs : Nat) : Int))
        have hD5 : ((((W.setCell ⟨w.heap.size, 0, none⟩ (.int .i64 f)).setCell ⟨w.heap.size, 1, none⟩ (.int .u64 gg)).setCell ⟨w.heap.size, 2, none⟩ (.slice rp rs.length rc)).setCell ⟨w.heap.size, 3, none⟩ (.int .i64 ((44 + sizeI rs : Nat) : Int))).heap[D]? = some (.deferred (some [])) := by
          rw [set_heap hDn, set_heap hDn, set_heap hDn, set_heap hDn]; exact hK'
        have hF5 : FrL ((((W.setCell ⟨w.heap.size, 0, none⟩ (.int .i64 f)).setCell ⟨w.heap.size, 1, none⟩ (.int .u64 gg)).setCell ⟨w.heap.size, 2, none⟩ (.slice rp rs.length rc)).setCell ⟨w.heap.size, 3, none⟩ (.int .i64 ((44 + sizeI rs : Nat) : Int))) WL.heap.size (.slice rp rs.length rc) rs := hF.keep fun g hg _ => by
          rw [set_heap (by omega), set_heap (by omega), set_heap (by omega), set_heap (by omega)]
        have hg := grownBy_putObj' (World.drew ((((W.setCell ⟨w.heap.size, 0, none⟩ (.int .i64 f)).setCell ⟨w.heap.size, 1, none⟩ (.int .u64 gg)).setCell ⟨w.heap.size, 2, none⟩ (.slice rp rs.length rc)).setCell ⟨w.heap.size, 3, none⟩ (.int .i64 ((44 + sizeI rs : Nat) : Int)))) D (.deferred none)
        have hr6 : RowV 82 w.heap.size [.int .i64 f, .int .u64 gg, .slice rp rs.length rc, .int .i64 ((44 + sizeI rs : Nat) : Int)] _ := RowV.own hr5.drew hg fun r e => by cases e; exact ⟨_, hD5, rfl⟩
        have hF6 : FrL _ WL.heap.size (.slice rp rs.length rc) rs := hF5.drew.keep fun g hg2 ⟨o2, h1, h2⟩ => grownBy_keeps_cells hg (fun r e => by cases e; exact ⟨_, hD5, rfl⟩) h1 h2
        have hb6 := hb5.drew.grown hg (by have := hb5.drew.size; omega) fun k e => by cases e; omega
        refine leavesM_gen (fun Wf => RowV 82 w.heap.size [.int .i64 f, .int .u64 gg, .slice rp rs.length rc, .int .i64 ((44 + sizeI rs : Nat) : Int)] Wf ∧ FrL Wf WL.heap.size (.slice rp rs.length rc) rs ∧ RowKit.Below w.heap.size w Wf) ⟨hr6, hF6, hb6⟩ ?_
        rintro Wf ⟨hr7, hF7, hb7⟩
        have d0 := hr7.cell 0
        have d1 := hr7.cell 1
        have d2 := hr7.cell 2
        have d3 := hr7.cell 3
        simp only [List.getElem?_cons_zero, List.getElem?_cons_succ] at d0 d1 d2 d3
        refine ⟨.agg #[.int .i64 f, .int .u64 gg, .slice rp rs.length rc, .int .i64 ((44 + sizeI rs : Nat) : Int)], ?_, hb7, fun h => absurd h (by omega), fun _ => ⟨_, by rw [Int.natCast_add]; rfl, hF7.down hbL.size⟩⟩
        simp [results, Tryz.f29, go_sem, d0, d1, d2, d3]

/-- what a file has, as a value -/
theorem look_all (f : Int) (v : Value) (b : List Int) (w : World) (hv : RdB w v b) (hbb : Bytes b) (hl : b.length ≤ 10000000) (hk : KTab w) :
    Calls Tryz.prog 29 #[.int .i64 f, v] w fun e w' => RowKit.Below w.heap.size w w' ∧ (lookI f b = none → e = .returned fnd0) ∧
      (∀ gg ls, lookI f b = some (gg, ls) → ∃ rv, e = .returned (.agg #[.int .i64 f, .int .u64 gg, rv, .int .i64 (44 + sizeI ls)]) ∧ FrL w' w.heap.size rv ls) := by
  have none_of : lookI f b = none → (Calls Tryz.prog 29 #[.int .i64 f, v] w fun e w' => e = .returned fnd0 ∧ RowKit.Below w.heap.size w w') → Calls Tryz.prog 29 #[.int .i64 f, v] w fun e w' => RowKit.Below w.heap.size w w' ∧ (lookI f b = none → e = .returned fnd0) ∧
      (∀ gg ls, lookI f b = some (gg, ls) → ∃ rv, e = .returned (.agg #[.int .i64 f, .int .u64 gg, rv, .int .i64 (44 + sizeI ls)]) ∧ FrL w' w.heap.size rv ls) :=
    fun hn hc => hc.mono fun e w' ⟨he, hb⟩ => ⟨hb, fun _ => he, fun gg ls h => by rw [hn] at h; cases h⟩
  by_cases h44 : b.length < 44
  · exact none_of (by unfold lookI; rw [if_pos h44]) (look_a f v b w hv h44)
  by_cases hc : chk (b.take 12) = (b.drop 12).take 32
  case neg => exact none_of (by unfold lookI; rw [if_neg h44, if_pos hc]) (look_b f v b w hv hbb (by omega) hl hk hc)
  by_cases hbad : ofBytes (b.take 8) < 1 ∨ 4611686018427387904 < ofBytes (b.take 8) ∨ ofBytes (b.take 8) % 2 ≠ f
  · exact none_of (by unfold lookI; rw [if_neg h44, if_neg (by simp [hc]), if_pos hbad]) (look_c f v b w hv hbb (by omega) hl hk hc hbad)
  refine (look_d f v b w hv hbb (by omega) hl hk hc (by omega) (by omega) (by omega)).mono fun e w' ⟨hb, h1, h2⟩ => ⟨hb, fun hn => ?_, fun gg ls hs => ?_⟩
  · unfold lookI at hn
    rw [if_neg h44, if_neg (by simp [hc]), if_neg hbad] at hn
    split at hn
    · exact h1 (by assumption)
    · cases hn
  · unfold lookI at hs
    rw [if_neg h44, if_neg (by simp [hc]), if_neg hbad] at hs
    split at hs
    · cases hs
    · injection hs with hs
      injection hs with e1 e2
      subst e1; subst e2
      exact h2 (by omega)
end Go.Proofs.YtfohemgfiidokaaGreatDoor
