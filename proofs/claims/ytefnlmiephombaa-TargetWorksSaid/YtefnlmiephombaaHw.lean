/- The walk of BigHashes. -/
import Derived.Test.YtefnlmiephombaaRi
import Derived.Test.YtefnlmiephombaaTl
import Derived.Test.YtefnlmiephombaaWk
namespace Go.Proofs.Ytefnlmiephombaa
open Go.RowKit Go.Sort

/-- 'load' of a whole row in a quiet walk -/
theorem quiet_load_row {P : Program} {C : World → Prop} {a : Act} {o : Oper} {K : Act → Prop} (ty : TypeId) (x : Operand) (ho : o.op = .load ty x)
    (g : Nat) (hx : a.eval x = .pointer (some ⟨g, 0, none⟩)) (t : TypeId) (cs : Array Value) (fr : Nat × Nat) (d : TypeDesc) (hg : ∀ w, C w → w.heap[g]? = some (.cells cs t fr))
    (hu : P.underlying ty = some d) (hd : (match d with | .struct _ | .array _ _ => true | _ => false) = true) (hi : (P.info? ty).map (·.size) = some cs.size)
    (h : K (a.put o.dst (.agg cs))) : o.quiet P a C K :=
  ⟨.agg cs, fun w hw => by
    unfold Oper.quietAt execOp
    simp only [ho, hx, Instr.loadAt, Instr.sureAddr, Sem.run_bind, Sem.run_pure, Result.andThen_ok, run_loadVar_row w g t ty cs fr d (hg w hw) hu hd hi]
    exact ⟨rfl, rfl⟩, h⟩
theorem RowU.regrown {g : Nat} {bs : List Int} {w : World} (h : RowU g bs w) (w' : World) (hw : ∃ p : Regrown, w' = grow (redrawn w p.d) p.os) : w'.heap[g]? = some (.cells (bs.map (Value.int .u8)).toArray 42 (0, 0)) := by
  obtain ⟨p, rfl⟩ := hw
  exact h.call (below_regrown w _ _)
theorem RowU.setRow_other {g b : Nat} {bs : List Int} {w : World} (h : RowU g bs w) (hne : g ≠ b) (cs : Array Value) : RowU g bs (w.setRow b cs) := by
  unfold RowU at h ⊢
  rw [Go.setRow_other _ _ _ _ hne]; exact h
theorem Cells4.setRow_other {w : World} {b b' : Nat} {u : Int} (h : Cells4 w b u) (hne : b ≠ b') (cs : Array Value) : Cells4 (w.setRow b' cs) b u := by
  have hc : ∀ o, (w.setRow b' cs).cell? ⟨b, o, none⟩ = w.cell? ⟨b, o, none⟩ := fun o => cell_setRow_other w b' cs _ hne
  have hf : ∀ o, (w.setRow b' cs).frozen? ⟨b, o, none⟩ = w.frozen? ⟨b, o, none⟩ := fun o => by simp [World.frozen?, Go.setRow_other w b' b cs hne]
  obtain ⟨c0, c1, c2, c3, f0, f1, f2, f3⟩ := h
  constructor <;> simp only [hc, hf] <;> assumption
theorem hash_eq (bs : List Int) (hl : bs.length = 32) (w : World) : (binOp .eql 42 (.agg (bs.map (Value.int .u8)).toArray) (.agg (bs.map (Value.int .u8)).toArray)).run Try.prog w = .ok (.bool true) w := by
  have := run_eql_ints w 42 5 .u8 32 (Try.underlying42.trans rfl) Try.underlying5 (fun _ => by simp [go_sem]) bs bs hl hl
  rwa [show (bs == bs) = true by simp] at this

set_option maxRecDepth 100000 in
set_option maxHeartbeats 4000000 in
theorem hashes_w (bs ds : List Int) (x a : Int) (hb : bs.length = 32) (hd : ds.length = 32) (w : World)
    (k33 : ∀ w, Calls Try.prog 33 #[.agg (bs.map (Value.int .u8)).toArray] w fun e w' => e = .returned (.agg #[.int .u64 (L0 x), .int .u64 (L1 x), .int .u64 (L2 x), .int .u64 (L3 x)]) ∧ Below w.heap.size w w')
    (k35 : ∀ w, Calls Try.prog 35 #[.agg (bs.map (Value.int .u8)).toArray] w fun e w' => e = .returned (.agg #[.int .u64 (L0 x), .int .u64 (L1 x), .int .u64 (L2 x), .int .u64 (L3 x)]) ∧ Below w.heap.size w w')
    (k34 : ∀ w, Calls Try.prog 34 #[.agg #[.int .u64 (L0 a), .int .u64 (L1 a), .int .u64 (L2 a), .int .u64 (L3 a)]] w fun e w' => e = .returned (.agg (ds.map (Value.int .u8)).toArray) ∧ Below w.heap.size w w')
    (k36 : ∀ w, Calls Try.prog 36 #[.agg #[.int .u64 (L0 a), .int .u64 (L1 a), .int .u64 (L2 a), .int .u64 (L3 a)]] w fun e w' => e = .returned (.agg (ds.map (Value.int .u8)).toArray) ∧ Below w.heap.size w w')
    (kto : ∀ w, Calls Try.prog 34 #[.agg #[.int .u64 (L0 x), .int .u64 (L1 x), .int .u64 (L2 x), .int .u64 (L3 x)]] w fun e w' => e = .returned (.agg (bs.map (Value.int .u8)).toArray) ∧ Below w.heap.size w w')
    (kof : ∀ w, Calls Try.prog 33 #[.agg (ds.map (Value.int .u8)).toArray] w fun e w' => e = .returned (.agg #[.int .u64 (L0 a), .int .u64 (L1 a), .int .u64 (L2 a), .int .u64 (L3 a)]) ∧ Below w.heap.size w w') :
    Calls Try.prog 8 #[hsh bs, big a] w fun e w' => e = .returned (.bool true) ∧ Below w.heap.size w w' := by
  have n0 := hash_eq bs hb
  have n1 := hash_eq ds hd
  have n2 : ∀ w, (binOp .eql 24 (.agg #[.int .u64 (L0 x), .int .u64 (L1 x), .int .u64 (L2 x), .int .u64 (L3 x)]) (.agg #[.int .u64 (L0 x), .int .u64 (L1 x), .int .u64 (L2 x), .int .u64 (L3 x)])).run Try.prog w = .ok (.bool true) w := fun w => by
    have := eq_run x x w
    rwa [show (m x == m x) = true by simp] at this
  have n3 : ∀ w, (binOp .eql 24 (.agg #[.int .u64 (L0 a), .int .u64 (L1 a), .int .u64 (L2 a), .int .u64 (L3 a)]) (.agg #[.int .u64 (L0 a), .int .u64 (L1 a), .int .u64 (L2 a), .int .u64 (L3 a)])).run Try.prog w = .ok (.bool true) w := fun w => by
    have := eq_run a a w
    rwa [show (m a == m a) = true by simp] at this
  have hib := info42 (bs.map (Value.int .u8)).toArray.size (by simp [hb])
  have hid := info42 (ds.map (Value.int .u8)).toArray.size (by simp [hd])
  have HB := Lib.hid hb; have HD := Lib.hid hd; have HIB := Lib.hid hib; have HID := Lib.hid hid
  clear hb hd hib hid
  unfold big hsh
  go_enter Try.func8, Try.ntmps8
  go_upto_region 1 with (fail)
  refine wp_gen (fun W => RowU w.heap.size bs W ∧ Cells4 W (w.heap.size + 1) a ∧ Below w.heap.size w W) ⟨(RowU.new w bs).alloc _, cells4_new' (w.alloc _) _ a (by simp), bel_alloc (bel_alloc (Below.refl _ _) _) _⟩ ?_
  rintro W ⟨cH, cA, hB⟩
  have CH := Lib.hid (show W.heap[w.heap.size]? = some (.cells (bs.map (Value.int .u8)).toArray 42 (0, 0)) from cH)
  go_upto_region 2 with (first | (refine wpList_load_row rfl 42 _ rfl _ rfl 42 _ _ _ CH.out Try.underlying42 rfl HIB.out ?_) | (go_at_call 33; with_reducible refine (k33 _).mono ?_; rintro e w1 ⟨rfl, hb1⟩))
  refine wp_gen (fun W => RowU w.heap.size bs W ∧ Cells4 W (w.heap.size + 1) a ∧ Cells4 W w1.heap.size x ∧ Below w.heap.size w W) ⟨(cH.call hb1).alloc _, (cA.call hb1).alloc _, cells4_new _ _, bel_alloc (bel_call hB hb1) _⟩ ?_
  have hne : w.heap.size < w1.heap.size ∧ w.heap.size + 1 < w1.heap.size := by have := hb1.size; have := cA.lt; omega
  clear hb1 cH cA hB CH
  generalize w1.heap.size = b1 at hne
  clear w1 W
  rintro W ⟨cH, cA, cX, hB⟩
  obtain ⟨a0, a1, a2, a3, -, -, -, -⟩ := id cA
  go_upto_region 3 with (first | (refine wpList_store_row rfl 42 _ _ rfl _ rfl _ rfl 42 _ (heap_alloc_new _ _) HID.out ?hs (oneCell_map _) ?_; (case hs => simp [HD.out])) | (go_at_call 34; with_reducible refine (k34 _).mono ?_; rintro e w1 ⟨rfl, hb1⟩))
  refine wp_gen (fun W => RowU w.heap.size bs W ∧ Cells4 W (w.heap.size + 1) a ∧ Cells4 W b1 x ∧ RowU w1.heap.size ds W ∧ Below w.heap.size w W) ⟨((cH.call hb1).alloc _).setRow_other (by have := cH.lt; have := hb1.size; omega) _, ((cA.call hb1).alloc _).setRow_other (by have := cA.lt; have := hb1.size; omega) _, ((cX.call hb1).alloc _).setRow_other (by have := cX.lt; have := hb1.size; omega) _, setRow_heap _ _ _ _ 42 _ (heap_alloc_new _ _), below_setRow (bel_alloc (bel_call hB hb1) _) (by have := hb1.size; have := cH.lt; omega) _⟩ ?_
  clear hb1 cH cA cX hB a0 a1 a2 a3 hne
  generalize w1.heap.size = b2
  clear w1 W
  rintro W ⟨cH, cA, cX, cD, hB⟩
  have k00 := fun d os => (cA.regrown d os).c0
  have k01 := fun d os => (cA.regrown d os).c1
  have k02 := fun d os => (cA.regrown d os).c2
  have k03 := fun d os => (cA.regrown d os).c3
  have k10 := fun d os => (cX.regrown d os).c0
  have k11 := fun d os => (cX.regrown d os).c1
  have k12 := fun d os => (cX.regrown d os).c2
  have k13 := fun d os => (cX.regrown d os).c3
  have CH := Lib.hid cH.regrown
  have CD := Lib.hid cD.regrown
  have q0 := quiet_call W k33
  have q1 := quiet_call W k34
  have q2 := quiet_call W k35
  have q3 := quiet_call W k36
  have q4 := quiet_call W kto
  have q5 := quiet_call W kof
  have q6 := quiet_call W works_c
  clear cH cD
  refine wp_region_quiet_below (by kernel_rfl) (by kernel_rfl) ?_
  simp only [Act.put]
  repeat (first | (go_big_quiet_want; (first | refine quiet_load_row 42 _ rfl w.heap.size rfl 42 _ _ _ CH.out Try.underlying42 rfl HIB.out ?_ | refine quiet_load_row 42 _ rfl b2 rfl 42 _ _ _ CD.out Try.underlying42 rfl HID.out ?_); simp only [Act.put, List.setIfInBounds_toArray, List.set_cons_zero, List.set_cons_succ]; go_big_quiet_on) | go_big_quiet_step ((first | with_reducible exact q0 _ _ | with_reducible exact q1 _ _ | with_reducible exact q2 _ _ | with_reducible exact q3 _ _ | with_reducible exact q4 _ _ | with_reducible exact q5 _ _ | with_reducible exact q6 _ _)))
  refine wpQuiet_nil ?_
  intro W1 hw'
  have hB1 : Below w.heap.size w W1 := by obtain ⟨p, rfl⟩ := hw'; exact hB.trans ((below_regrown W _ _).mono hB.size)
  clear hw'
  go_wp2
  go_ret
  exact ⟨rfl, hB1⟩

theorem bigHashes.walk (bs : List Int) (a : Int) (hl : bs.length = 32) (hbs : Bytes bs) (ha : 0 ≤ a) (ha' : a < M) (w : World) :
    Calls Try.prog 8 #[hsh bs, big a] w fun e w' => e = .returned (.bool true) ∧ Below w.heap.size w w' :=
  have _ := ha; have _ := ha'
  hashes_w bs (toBytes (m a)) (ofBytes bs) a hl (toBytes_length _) w (ofhash_c bs hl hbs) (rofhash_c bs hl hbs) (tohash_c a) (rtohash_c a)
    (fun w => by have := tohash_c (ofBytes bs) w; rwa [toBytes_ofBytes bs hl hbs] at this)
    (fun w => by have := ofhash_c (toBytes (m a)) (toBytes_length _) (toBytes_bytes _) w; rwa [ofBytes_toBytes, big_m] at this)
end Go.Proofs.Ytefnlmiephombaa
