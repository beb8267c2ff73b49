/- vault's Compact. -/
import Derived.Test.YtfohemgfiidokaaGreatDoorYz
namespace Go.Proofs.YtfohemgfiidokaaGreatDoor
open Go.RowKit Go.Sort

set_option maxRecDepth 100000 in
set_option maxHeartbeats 1600000 in
theorem comp_no {w : World} {ρ : Nat → Nat} {B D V : Nat} {d : Dk} {x : Va} (h : VD w ρ B D V d x) (v : Value) (ls : List (List Int)) (hv : RdL w v ls) (hln : ls.length ≤ 250000) (hm0 : vmayv x.broken ls ≠ 0) :
    Calls Tryz.prog 20 #[.pointer (some ⟨V, 0, none⟩), v] w fun e w' => e = .returned (.int .i64 (vmayv x.broken ls)) ∧ VLeft2 ρ B D V w d x w' := by
  have hmay := fun W (hb : RowKit.Below w.heap.size w W) => vmay_c (h.va.keep hb) v ls (hv.keep hb) (by omega)
  obtain ⟨p, cap, rfl, hcap, hel⟩ := hv.shape
  clear hel
  have HH := Lib.hid h
  generalize vmayv x.broken ls = z at *
  have hq : (z == 0) = false := by rw [beq_eq_false_iff_ne]; exact hm0
  have HM := Lib.hid hmay
  clear hm0 h hmay hv
  have hb2 : RowKit.Below w.heap.size w ((w.alloc (.cells #[.pointer (some ⟨V, 0, none⟩)] 34)).alloc (.cells #[.slice p ls.length cap] 39)) := bel_alloc (bel_alloc (RowKit.Below.refl _ _) _) _
  go_enter Tryz.func20, Tryz.ntmps20
  go_wp2_with (go_at_call 37; with_reducible refine (HM.out _ hb2).mono ?_; rintro e w1 ⟨rfl, rfl⟩)
  go_ret
  exact ⟨rfl, HH.out.below hb2⟩

set_option maxRecDepth 100000 in
set_option maxHeartbeats 1600000 in
theorem comp_many {w : World} {ρ : Nat → Nat} {B D V : Nat} {d : Dk} {x : Va} (h : VD w ρ B D V d x) (v : Value) (ls : List (List Int)) (hv : RdL w v ls) (hln : ls.length ≤ 250000) (hm0 : vmayv x.broken ls = 0) (hg : 4611686018427387904 ≤ x.gen) :
    Calls Tryz.prog 20 #[.pointer (some ⟨V, 0, none⟩), v] w fun e w' => e = .returned (.int .i64 6) ∧ VLeft2 ρ B D V w d x w' := by
  have hmay := fun W (hb : RowKit.Below w.heap.size w W) => vmay_c (h.va.keep hb) v ls (hv.keep hb) (by omega)
  rw [hm0] at hmay
  obtain ⟨p, cap, rfl, hcap, hel⟩ := hv.shape
  clear hel
  obtain ⟨W1, hW1, hb1, hs1, cb, cl, hvd⟩ := box2 h p ls.length cap
  have HH := Lib.hid h
  have e1 := hvd.va.gen
  have hd : decide (4611686018427387904 ≤ x.gen) = true := decide_eq_true hg
  have HM := Lib.hid (hmay W1 hb1)
  have HB1 := Lib.hid hb1
  clear hm0 h hmay hv hg hvd hb1 hs1
  go_enter Tryz.func20, Tryz.ntmps20
  go_wp2_with (go_at_call 37; with_reducible refine HM.out.mono ?_; rintro e w1 ⟨rfl, hw1⟩; obtain rfl := hw1.symm)
  go_ret
  exact ⟨rfl, HH.out.below HB1.out⟩

/-- behind Compact's third variable -/
def CompA (w W : World) (V bo : Nat) (p : Option Addr) (n cap : Nat) (o : Int) : Prop :=
  RowKit.Below w.heap.size w W ∧ W.cell? ⟨w.heap.size, 0, none⟩ = some (.pointer (some ⟨V, 0, none⟩)) ∧ W.cell? ⟨w.heap.size + 1, 0, none⟩ = some (.slice p n cap) ∧ W.cell? ⟨bo, 0, none⟩ = some (.int .i64 o) ∧ w.heap.size ≤ bo
theorem compA_new {w W1 : World} {V : Nat} {p : Option Addr} {n cap : Nat} (o : Int) (h1 : RowKit.Below w.heap.size w W1) (cb : W1.cell? ⟨w.heap.size, 0, none⟩ = some (.pointer (some ⟨V, 0, none⟩))) (cl : W1.cell? ⟨w.heap.size + 1, 0, none⟩ = some (.slice p n cap)) :
    CompA w (W1.alloc (.cells #[.int .i64 o] 3)) V W1.heap.size p n cap o := by
  have hb' : RowKit.Below W1.heap.size W1 (W1.alloc (.cells #[.int .i64 o] 3)) := bel_alloc (RowKit.Below.refl _ _) _
  exact ⟨h1.trans (hb'.mono h1.size), (hb'.cell (p := ⟨w.heap.size, 0, none⟩) (block_lt_of_cell cb)).trans cb, (hb'.cell (p := ⟨w.heap.size + 1, 0, none⟩) (block_lt_of_cell cl)).trans cl, cell_of_row _ _ _ _ _ _ (heap_alloc_new _ _), h1.size⟩

theorem step_append_rd {ops : Array Oper} {o : Oper} {a : Act} {K : Act → World → Prop} {Q : Exit → Act → World → Prop} {E : Prop} {w : World} (hgd : o.guard = none) (s x : Operand)
    (ho : o.op = .call { callee := .builtin .append, args := #[s, x], argTypes := #[40, 40] }) (base : Nat) (hbase : base ≤ w.heap.size)
    (v : Value) (xs : List Int) (hs : a.eval s = v) (hown : RowO w base v xs) (u : Value) (ys : List Int) (hx : a.eval x = u) (hr : RdB w u ys) (hlen : xs.length + ys.length ≤ 1000000000)
    (h : ∀ v' w', RowO w' base v' (xs ++ ys) → w.grownBy w' v.ownBlock → K (a.put o.dst v') w') :
    if Region.wanted o (yielded ops a.tmps) = true then Oper.wp Tryz.prog o a w K Q else E := by
  obtain ⟨i0, hi, hz0, hz1, hz2⟩ := info_parts Tryz.info5
  have hw : Region.wanted o (yielded ops a.tmps) = true := by simp [Region.wanted, hgd]
  rw [if_pos hw]
  rcases hr with ⟨rfl, rfl⟩ | ⟨a', g, of, cap, rfl, hc, ha, hcell⟩
  · have hr := run_append_owned_none (w := w) (P := Tryz.prog) base 40 o.type 5 i0 1 Tryz.underlying40 hi v xs.length (u8s xs) hown
    unfold Oper.wp execOp
    simp only [ho, resolve, invoke, builtin, Sem.run_bind, Sem.run_pure, Result.andThen_ok, List.map_toArray, List.map_cons, List.map_nil, hs, hx, hr]
    exact h v w (by rw [List.append_nil]; exact hown) (grownBy_refl _ _)
  · have hcs := rd_cell ha hcell ys.length
    rw [List.take_length] at hcs
    obtain ⟨v', w', hr, h1, h2, h3⟩ := run_append_own (P := Tryz.prog) w base 40 o.type 5 i0 (.int .u8 0) 1 1 Tryz.underlying40 hi hz0 hz1 hz2 rfl (by decide) v xs.length (u8s xs) hown a' ys.length cap (u8s ys) (by simp [u8s]) hcs (u8s_one ys) (by unfold maxLen; omega) (by omega) hbase
    unfold Oper.wp execOp
    simp only [ho, resolve, invoke, builtin, Sem.run_bind, Sem.run_pure, Result.andThen_ok, List.map_toArray, List.map_cons, List.map_nil, hs, hx, hr]
    refine h v' w' ?_ h2
    unfold RowO
    rw [List.length_append, show u8s (xs ++ ys) = u8s xs ++ u8s ys by simp [u8s]]
    exact h1
theorem RowO.box {w : World} {B : Nat} {v : Value} {xs : List Int} (h : RowO w B v xs) (o : Obj) : RowO (w.alloc o) B v xs := ownsRow_alloc h o
theorem boxed_below {W W' : World} {B : Nat} {t : TypeId} {v : Value} (h : Boxed W B t v) (hb : RowKit.Below W.heap.size W W') : Boxed W' B t v := (hb.block B h.lt).trans h
/-- behind Compact's fourth variable -/
def CompB (w W : World) (V bo bs : Nat) (p : Option Addr) (n cap : Nat) (o : Int) (v6 : Value) (s : List Int) : Prop := CompA w W V bo p n cap o ∧ W.cell? ⟨bs, 0, none⟩ = some v6 ∧ RowO W w.heap.size v6 s ∧ w.heap.size ≤ bs
theorem CompA.keep {w W W' : World} {V bo : Nat} {p : Option Addr} {n cap : Nat} {o : Int} (h : CompA w W V bo p n cap o) (hb : RowKit.Below W.heap.size W W') : CompA w W' V bo p n cap o := by
  obtain ⟨h1, h2, h3, h4, h5⟩ := h
  exact ⟨h1.trans (hb.mono h1.size), (hb.cell (p := ⟨w.heap.size, 0, none⟩) (block_lt_of_cell h2)).trans h2, (hb.cell (p := ⟨w.heap.size + 1, 0, none⟩) (block_lt_of_cell h3)).trans h3, (hb.cell (p := ⟨bo, 0, none⟩) (block_lt_of_cell h4)).trans h4, h5⟩
theorem compB_set {w W w6 : World} {V bo bs : Nat} {p : Option Addr} {n cap : Nat} {o : Int} {v6 : Value} {s : List Int} (h : CompA w W V bo p n cap o) (hb : RowKit.Below W.heap.size W w6) (bx : Boxed w6 bs 40 (.slice none 0 0)) (hr : RowO w6 w.heap.size v6 s) (hbs : W.heap.size ≤ bs) : CompB w (w6.setCell ⟨bs, 0, none⟩ v6) V bo bs p n cap o v6 s := by
  have hs := h.1.size
  refine ⟨h.keep (bel_set0 hb _ _ hbs _), set_same bx.cell, ?_, by omega⟩
  have hn := bx.not_row (by decide) hr
  obtain ⟨e1, ⟨e2, e3⟩ | ⟨g, cp, cur, e2, e3, e4, e5⟩⟩ := hr
  · exact ⟨e1, .inl ⟨e2, e3⟩⟩
  · refine ⟨e1, .inr ⟨g, cp, cur, e2, e3, ?_, e5⟩⟩
    rw [set_heap (fun e => hn (by rw [e2, e]; rfl))]; exact e4
theorem compB_new {w W w6 : World} {V bo : Nat} {p : Option Addr} {n cap : Nat} {o : Int} {v6 : Value} {s : List Int} (h : CompA w W V bo p n cap o) (hb : RowKit.Below W.heap.size W w6) (hr : RowO w6 w.heap.size v6 s) : CompB w (w6.alloc (.cells #[v6] 40)) V bo w6.heap.size p n cap o v6 s := by
  have hs := h.1.size
  have hs2 := hb.size
  exact ⟨h.keep (bel_alloc hb _), cell_of_row _ _ _ _ _ _ (heap_alloc_new _ _), ownsRow_alloc hr _, by omega⟩

theorem room_bd {d : Dk} (h : 0 ≤ d.most ∧ d.most ≤ 4194304) : 0 ≤ roomF d ∧ roomF d ≤ 4194304 := by unfold roomF; omega

theorem share6 {Φ : World → Nat → Option Addr → Nat → Prop} {R : Prop} (G : World → Nat → Option Addr → Nat → Value → Value → Prop) (h2 : (∀ W bs p c u v, Φ W bs p c → G W bs p c u v) → R) (h1 : ∀ W bs p c u v, Φ W bs p c → G W bs p c u v) : R := h2 h1

set_option maxRecDepth 100000 in
set_option maxHeartbeats 1600000 in
theorem comp_off {w : World} {ρ : Nat → Nat} {B D V : Nat} {d : Dk} {x : Va} {k m : Nat} (h : VD w ρ B D V d x) (hz : DSz d k m) (hk : k ≤ 900000) (hm : m ≤ 9000000) (hf : x.file < 2) (v : Value) (ls : List (List Int)) (hv : RdL w v ls) (hln : ls.length ≤ 250000) (hm0 : vmayv x.broken ls = 0) (hg : x.gen < 4611686018427387904) (hoff : d.off = true) :
    Calls Tryz.prog 20 #[.pointer (some ⟨V, 0, none⟩), v] w fun e w' => e = .returned (.int .i64 8) ∧ VLeft2 ρ B D V w d { x with broken := true } w' := by
  have ok := hz.ok (by omega) (by omega)
  have hmay := fun W (hb : RowKit.Below w.heap.size w W) => vmay_c (h.va.keep hb) v ls (hv.keep hb) (by omega)
  rw [hm0] at hmay
  have hvk := hv
  obtain ⟨p, cap, rfl, hcap, hel⟩ := hv.shape
  clear hel
  obtain ⟨W1, hW1, hb1, hs1, cb, cl, hvd⟩ := box2 h p ls.length cap
  have HH := Lib.hid h
  have e1 := hvd.va.gen
  have e2 := hvd.va.file
  have hd : decide (4611686018427387904 ≤ x.gen) = false := decide_eq_false (by omega)
  have hfw : IntKind.i64.wrap (1 - (x.file : Int)) = 1 - x.file := by rw [IntKind.wrap_i64]; omega
  have HM := Lib.hid (hmay W1 hb1)
  have HB1 := Lib.hid hb1
  have HS1 := Lib.hid hs1
  have HVK := Lib.hid hvk
  clear hm0 h hmay hv hvk hvd hb1 hs1
  go_enter Tryz.func20, Tryz.ntmps20
  go_upto_region 7 with (go_at_call 37; with_reducible refine HM.out.mono ?_; rintro e w1 ⟨rfl, hw1⟩; obtain rfl := hw1.symm)
  clear hW1 e1 e2
  have hca := compA_new (1 - (x.file : Int)) HB1.out cb cl
  clear HM HS1 cb cl
  generalize (W1.alloc (.cells #[.int .i64 (1 - (x.file : Int))] 3)) = W at *
  generalize W1.heap.size = bo at *
  clear HB1 W1
  obtain ⟨hbw, cb, cl, co, hbo⟩ := hca
  have hvd2 := HH.out.keep hbw
  have e0 := hvd2.va.d
  have hdw : RowKit.Below W.heap.size W W.drew := (RowKit.Below.refl _ _).drew
  have mk2 : ∀ W', RowKit.Below W.heap.size W W' → W'.cell? ⟨w.heap.size, 0, none⟩ = some (.pointer (some ⟨V, 0, none⟩)) ∧ W'.cell? ⟨bo, 0, none⟩ = some (.int .i64 (1 - (x.file : Int))) ∧ W'.cell? ⟨V, 0, none⟩ = some (.pointer (some ⟨D, 0, none⟩)) := fun W' hb =>
    ⟨(hb.cell (block_lt_of_cell cb)).trans cb, (hb.cell (block_lt_of_cell co)).trans co, (hb.cell (block_lt_of_cell e0)).trans e0⟩
  obtain ⟨r1, r2, r3⟩ := mk2 _ hdw
  have hrd := read_no (h := (HH.out.disk.keep (bel_call hbw hdw))) (1 - (x.file : Int)) (by rw [hoff]; simp [mayv])
  rw [show mayv d.off (1 - (x.file : Int)) = 8 by rw [hoff]; rfl] at hrd
  have HBW := Lib.hid hbw; have HVD2 := Lib.hid hvd2
  clear hbw hvd2 hoff
  go_region_held3 (fun W' => W'.cell? ⟨w.heap.size, 0, none⟩ = some (.pointer (some ⟨V, 0, none⟩)) ∧ W'.cell? ⟨bo, 0, none⟩ = some (.int .i64 (1 - (x.file : Int))) ∧ W'.cell? ⟨V, 0, none⟩ = some (.pointer (some ⟨D, 0, none⟩))) (first | exact ⟨r1, r2, r3⟩ | fail) (first | (go_at_call 24; (with_reducible refine hrd.mono ?_); rintro e w3 ⟨rfl, hw3⟩; obtain rfl := hw3.symm))
  have hk5 := vkept_c (HVD2.out.keep hdw).va 8
  rw [show decide ((8 : Int) ≠ 0) = true from rfl] at hk5
  have hfin : VLeft2 ρ B D V w d { x with broken := true } (W.drew.setCell ⟨V, 4, none⟩ (.bool true)) := ⟨ρ, (HVD2.out.keep hdw).setB true, (MvV.ofBelow ρ V (bel_call HBW.out hdw)).set HH.out.role 4 _⟩
  have HF := Lib.hid hfin
  have HK := Lib.hid hk5
  clear hfin hk5
  go_wp2_with (go_at_call 39; with_reducible refine HK.out.mono ?_; rintro e w4 ⟨rfl, rfl⟩)
  go_ret
  exact ⟨rfl, HF.out⟩

set_option maxRecDepth 100000 in
set_option maxHeartbeats 3200000 in
theorem comp_ok {w : World} {ρ : Nat → Nat} {B D V : Nat} {d : Dk} {x : Va} {k m : Nat} (h : VD w ρ B D V d x) (hz : DSz d k m) (hk : k ≤ 900000) (hm : m ≤ 9000000) (ht : KTab w) (hf : x.file < 2) (v : Value) (ls : List (List Int)) (hv : RdL w v ls) (hlb : ∀ r ∈ ls, Bytes r) (hsz : sizeI ls ≤ 10000000) (hln : ls.length ≤ 250000) (hm0 : vmayv x.broken ls = 0) (hg0 : 0 ≤ x.gen) (hg : x.gen < 4611686018427387904) (hoff : d.off = false) :
    Calls Tryz.prog 20 #[.pointer (some ⟨V, 0, none⟩), v] w fun e w' => e = .returned (.int .i64 (d.compV x ls).1) ∧ VLeft2 ρ B D V w (d.compV x ls).2.1 (d.compV x ls).2.2 w' := by
  have HM0 := Lib.hid hm0
  have HOFF := Lib.hid hoff
  have ok := hz.ok (by omega) (by omega)
  have hmay := fun W (hb : RowKit.Below w.heap.size w W) => vmay_c (h.va.keep hb) v ls (hv.keep hb) (by omega)
  rw [hm0] at hmay
  have hvk := hv
  obtain ⟨p, cap, rfl, hcap, hel⟩ := hv.shape
  clear hel
  obtain ⟨W1, hW1, hb1, hs1, cb, cl, hvd⟩ := box2 h p ls.length cap
  have HH := Lib.hid h
  have e1 := hvd.va.gen
  have e2 := hvd.va.file
  have hd : decide (4611686018427387904 ≤ x.gen) = false := decide_eq_false (by omega)
  have hfw : IntKind.i64.wrap (1 - (x.file : Int)) = 1 - x.file := by rw [IntKind.wrap_i64]; omega
  have HM := Lib.hid (hmay W1 hb1)
  have HB1 := Lib.hid hb1
  have HS1 := Lib.hid hs1
  have HVK := Lib.hid hvk
  clear hm0 h hmay hv hvk hvd hb1 hs1
  go_enter Tryz.func20, Tryz.ntmps20
  go_upto_region 7 with (go_at_call 37; with_reducible refine HM.out.mono ?_; rintro e w1 ⟨rfl, hw1⟩; obtain rfl := hw1.symm)
  clear hW1 e1 e2
  have hca := compA_new (1 - (x.file : Int)) HB1.out cb cl
  clear HM HS1 cb cl
  generalize (W1.alloc (.cells #[.int .i64 (1 - (x.file : Int))] 3)) = W at *
  generalize W1.heap.size = bo at *
  clear HB1 W1
  obtain ⟨hbw, cb, cl, co, hbo⟩ := hca
  have hvd2 := HH.out.keep hbw
  have e0 := hvd2.va.d
  have hdw : RowKit.Below W.heap.size W W.drew := (RowKit.Below.refl _ _).drew
  have mk2 : ∀ W', RowKit.Below W.heap.size W W' → W'.cell? ⟨w.heap.size, 0, none⟩ = some (.pointer (some ⟨V, 0, none⟩)) ∧ W'.cell? ⟨bo, 0, none⟩ = some (.int .i64 (1 - (x.file : Int))) ∧ W'.cell? ⟨V, 0, none⟩ = some (.pointer (some ⟨D, 0, none⟩)) := fun W' hb =>
    ⟨(hb.cell (block_lt_of_cell cb)).trans cb, (hb.cell (block_lt_of_cell co)).trans co, (hb.cell (block_lt_of_cell e0)).trans e0⟩
  obtain ⟨r1, r2, r3⟩ := mk2 _ hdw
  have hfo : ((1 - x.file : Nat) : Int) = 1 - (x.file : Int) := by omega
  have hrd := read_at (HH.out.disk.keep (bel_call hbw hdw)) (1 - x.file) _ ((HH.out.disk.keep (bel_call hbw hdw)).file _ (by omega)) (by omega) (ok.file _) hoff
  rw [hfo] at hrd
  have HBW := Lib.hid hbw; have HVD2 := Lib.hid hvd2
  clear hbw hvd2 hoff
  go_region_held3 (fun W' => W'.cell? ⟨w.heap.size, 0, none⟩ = some (.pointer (some ⟨V, 0, none⟩)) ∧ W'.cell? ⟨bo, 0, none⟩ = some (.int .i64 (1 - (x.file : Int))) ∧ W'.cell? ⟨V, 0, none⟩ = some (.pointer (some ⟨D, 0, none⟩))) (first | exact ⟨r1, r2, r3⟩ | exact mk2 _ hb3 | fail) (first | (go_at_call 24; (with_reducible refine hrd.mono ?_); rintro e w3 ⟨v3, rfl, hr3, hb3'⟩; have hb3 : RowKit.Below W.heap.size W w3 := bel_call hdw hb3'; obtain ⟨p3, c3, rfl, hc3⟩ := hr3.rd.shape))
  clear hr3
  obtain ⟨sl, hsl⟩ : ∃ sl, (d.file (1 - x.file)).stands.length = sl := ⟨_, rfl⟩
  have hslb : sl ≤ 10000000 := by
    rw [← hsl]
    have h1 := (hz.f (1 - x.file)).1
    have h2 := stands_len (d.file (1 - x.file))
    omega
  rw [hsl]
  have HSL := Lib.hid hsl
  clear hsl
  have hcb : CompA w w3 V bo p ls.length cap (1 - (x.file : Int)) := CompA.keep ⟨HBW.out, cb, cl, co, hbo⟩ hb3
  rename_i hheld
  clear hheld hb3' hrd cb cl co hb3 HVD2 hdw mk2 r1 r2 r3 e0 HBW W
  have HCB := Lib.hid hcb
  obtain ⟨hbw, cb, cl, co, hbo⟩ := hcb
  have hvd2 := HH.out.keep hbw
  have e0 := hvd2.va.d
  have e2 := hvd2.va.gen
  have hdw : RowKit.Below w3.heap.size w3 w3.drew := (RowKit.Below.refl _ _).drew
  have mk3 : ∀ W', RowKit.Below w3.heap.size w3 W' → W'.cell? ⟨w.heap.size, 0, none⟩ = some (.pointer (some ⟨V, 0, none⟩)) ∧ W'.cell? ⟨w.heap.size + 1, 0, none⟩ = some (.slice p ls.length cap) ∧ W'.cell? ⟨V, 2, none⟩ = some (.int .u64 x.gen) := fun W' hb =>
    ⟨(hb.cell (block_lt_of_cell cb)).trans cb, (hb.cell (block_lt_of_cell cl)).trans cl, (hb.cell (block_lt_of_cell e2)).trans e2⟩
  obtain ⟨r1, r2, r3⟩ := mk3 _ hdw
  have hdx : RowKit.Below w3.heap.size w3 (w3.alloc (.cells #[.slice none 0 0] 40)).drew := (bel_alloc (RowKit.Below.refl _ _) _).drew
  have bx3 : Boxed (w3.alloc (.cells #[.slice none 0 0] 40)).drew w3.heap.size 40 (.slice none 0 0) := Boxed.new w3 _ _
  have hgw : IntKind.u64.wrap (x.gen + 1) = x.gen + 1 := by rw [IntKind.wrap_u64]; omega
  have hs3 := hbw.size
  have hll := len_le_size ls
  have hhd := fun W' (hb : RowKit.Below w3.heap.size w3 W') => head_c (x.gen + 1) ls.length W' (by omega) (by omega) (ht.call (bel_call hbw hb))
  have hfr := fun W' (hb : RowKit.Below w3.heap.size w3 W') => frames_c (x.gen + 1) 0 (.slice p ls.length cap) ls W' (by omega) (by omega) (HVK.out.keep (bel_call hbw hb)) hlb (by omega) hsz (ht.call (bel_call hbw hb))
  have hhl := headI_len (x.gen + 1) ls.length
  have hfl := framesI_len (x.gen + 1) ls 0
  have hcs : compS x ls = headI (x.gen + 1) ls.length ++ framesI (x.gen + 1) 0 ls := rfl
  have hcl := compS_len x ls
  generalize headI (x.gen + 1) ls.length = hds at *
  generalize framesI (x.gen + 1) 0 ls = frs at *
  rw [hcs] at hcl
  have hal : hds.length + frs.length ≤ 1000000000 := by omega
  have HD := Lib.hid hhd; have HF := Lib.hid hfr; have HAL := Lib.hid hal; have HCS := Lib.hid hcs; have HCL := Lib.hid hcl
  have HBW := Lib.hid hbw; have HVD2 := Lib.hid hvd2
  clear hbw hvd2 hhd hfr hhl hfl hal hcs hcl
  go_upto_region 10 with fail
  apply share6 (Φ := fun W bs p6 c6 => CompB w W V bo bs p ls.length cap (1 - (x.file : Int)) (.slice p6 (hds.length + frs.length) c6) (hds ++ frs))
  case h2 =>
    intro key
    go_region_held3 (fun W' => W'.cell? ⟨w.heap.size, 0, none⟩ = some (.pointer (some ⟨V, 0, none⟩)) ∧ W'.cell? ⟨w.heap.size + 1, 0, none⟩ = some (.slice p ls.length cap) ∧ W'.cell? ⟨V, 2, none⟩ = some (.int .u64 x.gen))
      (first | exact ⟨r1, r2, r3⟩ | (with_reducible refine mk3 _ ?_; first | with_reducible exact hdx | with_reducible exact hc6 | with_reducible exact bel_alloc hc6 _ | with_reducible exact bel_set0 hc6 _ _ hbs5 _ | with_reducible exact bel_set0 hc6 _ _ hbs4 _ | with_reducible exact bel_set0 hc6 _ _ (Nat.le_refl _) _ | with_reducible exact hc5 | with_reducible exact bel_alloc hc5 _ | with_reducible exact hc4 | with_reducible exact bel_alloc hc4 _) | fail)
      (first
      | (go_at_call 47; (with_reducible refine (HD.out _ hdw).mono ?_); rintro e w4 ⟨v4, rfl, hr4, hb4⟩; have hc4 := bel_call hdw hb4; have hr4 : RowO w4 w3.heap.size v4 hds := hr4)
      | (go_at_call 47; (with_reducible refine (HD.out _ hdx).mono ?_); rintro e w4 ⟨v4, rfl, hr4, hb4⟩; have hc4 := bel_call hdx hb4; have bx4 := boxed_below bx3 hb4; have hr4 := RowO.down hr4 (show w3.heap.size ≤ _ from hdx.size))
      | (go_at_call 38; (with_reducible refine (HF.out _ hc4).mono ?_); rintro e w5 ⟨v5, rfl, hr5, hb5⟩; have hc5 := bel_call hc4 hb5; have bx5 := boxed_below bx4 hb5; have hr4 := RowO.keep hr4 hb5)
      | (go_at_call 38; (with_reducible refine (HF.out _ hc4).mono ?_); rintro e w5 ⟨v5, rfl, hr5, hb5⟩; have hc5 := bel_call hc4 hb5; have hr4 := RowO.keep hr4 hb5)
      | (go_at_call 38; ((with_reducible refine (HF.out _ (bel_alloc hc4 _)).mono ?_); rintro e w5 ⟨v5, rfl, hr5, hb5⟩; have hc5 := bel_call (bel_alloc hc4 _) hb5; have bx5 := boxed_below (Boxed.new w4 40 (.slice none 0 0)) hb5; have hbs4 := hc4.size; have hr4 := RowO.keep (RowO.box hr4 _) hb5))
      | (refine step_append_rd rfl _ _ rfl w3.heap.size hc5.size _ hds rfl hr4 _ frs rfl hr5.rd HAL.out ?_; intro v6 w6 hr6 hg6; have hc6 : RowKit.Below w3.heap.size w3 w6 := hc5.grown hg6 hc5.size (fun k e => (World.ownsRow.lt hr4 k e).1); have bx6 := bx5.kept hg6 (bx5.not_row (by decide) hr4); have bc6 := bx6.cell; have bf6 := bx6.frozen; obtain ⟨p6, c6, rfl, hq6⟩ := hr6.rd.shape)
      | (refine step_append_rd rfl _ _ rfl w3.heap.size hc5.size _ hds rfl hr4 _ frs rfl hr5.rd HAL.out ?_; intro v6 w6 hr6 hg6; have hc6 : RowKit.Below w3.heap.size w3 w6 := hc5.grown hg6 hc5.size (fun k e => (World.ownsRow.lt hr4 k e).1); obtain ⟨p6, c6, rfl, hq6⟩ := hr6.rd.shape)
      | (refine step_append_rd rfl _ _ rfl w3.heap.size (bel_alloc hc5 _).size _ hds rfl (RowO.box hr4 _) _ frs rfl (RowO.rd (RowO.box hr5 _)) HAL.out ?_; intro v6 w6 hr6 hg6; have hc6 : RowKit.Below w3.heap.size w3 w6 := (bel_alloc hc5 _).grown hg6 (bel_alloc hc5 _).size (fun k e => (World.ownsRow.lt hr4 k e).1); have bx6 := (Boxed.new w5 40 (.slice none 0 0)).kept hg6 ((Boxed.new w5 40 (.slice none 0 0)).not_row (by decide) (ownsRow_alloc hr4 _)); have bc6 := bx6.cell; have bf6 := bx6.frozen; have hbs5 := hc5.size; obtain ⟨p6, c6, rfl, hq6⟩ := hr6.rd.shape)
      | fail)
    all_goals simp only [List.length_append] at hr6
    · have hmid := compB_new HCB.out hc6 (RowO.down hr6 hs3)
      generalize (w6.alloc (.cells #[(.slice p6 (hds.length + frs.length) c6)] 40)) = W at *
      generalize w6.heap.size = bs at *
      exact key W bs p6 c6 v4 v5 hmid
    · have hmid := compB_set HCB.out hc6 bx6 (RowO.down hr6 hs3) hbs5
      generalize (w6.setCell ⟨w5.heap.size, 0, none⟩ (.slice p6 (hds.length + frs.length) c6)) = W at *
      generalize w5.heap.size = bs at *
      exact key W bs p6 c6 v4 v5 hmid
    · have hmid := compB_set HCB.out hc6 bx6 (RowO.down hr6 hs3) hbs4
      generalize (w6.setCell ⟨w4.heap.size, 0, none⟩ (.slice p6 (hds.length + frs.length) c6)) = W at *
      generalize w4.heap.size = bs at *
      exact key W bs p6 c6 v4 v5 hmid
    · have hmid := compB_set HCB.out hc6 bx6 (RowO.down hr6 hs3) (Nat.le_refl _)
      generalize (w6.setCell ⟨w3.heap.size, 0, none⟩ (.slice p6 (hds.length + frs.length) c6)) = W at *
      generalize w3.heap.size = bs at *
      exact key W bs p6 c6 v4 v5 hmid
  case h1 =>
    intro W bs p6 c6 u4 u5 hmid
    obtain ⟨⟨hbw, cb, cl, co, hbo⟩, cs, hrow, hbs⟩ := hmid
    have hvd2 := HH.out.keep hbw
    have e0 := hvd2.va.d
    have hdw : RowKit.Below W.heap.size W W.drew := (RowKit.Below.refl _ _).drew
    have hroom := vroom_c (HH.out.disk.keep (bel_call hbw hdw)) ok
    have mk2 : ∀ W', RowKit.Below W.heap.size W W' → W'.cell? ⟨w.heap.size, 0, none⟩ = some (.pointer (some ⟨V, 0, none⟩)) ∧ W'.cell? ⟨bs, 0, none⟩ = some (.slice p6 (hds.length + frs.length) c6) ∧ W'.cell? ⟨V, 0, none⟩ = some (.pointer (some ⟨D, 0, none⟩)) := fun W' hb =>
      ⟨(hb.cell (block_lt_of_cell cb)).trans cb, (hb.cell (block_lt_of_cell cs)).trans cs, (hb.cell (block_lt_of_cell e0)).trans e0⟩
    obtain ⟨r1, r2, r3⟩ := mk2 _ hdw
    have HROW := Lib.hid hrow
    have HBW2 := Lib.hid hbw
    have HVD3 := Lib.hid hvd2
    have hroom2 : Calls Tryz.prog 16 #[.pointer (some ⟨D, 0, none⟩)] W.drew fun e w' => e = .returned (.int .i64 (roomF d)) ∧ RowKit.Below W.heap.size W w' := hroom.mono fun e w' h => ⟨h.1, bel_call hdw h.2⟩
    clear hroom hrow hbw hvd2
    have hrb := room_bd ⟨hz.m0, hz.m1⟩
    have hrw : IntKind.i64.wrap (roomF d + sl) = roomF d + sl := by rw [IntKind.wrap_i64]; omega
    have hcl2 := HCL.out
    rw [List.length_append] at hcl2
    have hslb := HSL.out
    by_cases hlt : roomF d + sl < ((hds.length + frs.length : Nat) : Int)
    · have hA : d.compV x ls = (7, d, x) := by
        unfold Dk.compV
        rw [if_neg (by simp [HM0.out]), if_neg (by omega), if_neg (by rw [HOFF.out]; simp), if_pos (by rw [hslb, ← hcl2]; exact hlt)]
      have hd1 : decide (roomF d + sl < ((hds.length + frs.length : Nat) : Int)) = true := decide_eq_true hlt
      have hd2 : decide (roomF d + sl < (hds.length : Int) + (frs.length : Int)) = true := decide_eq_true (by omega)
      have HA := Lib.hid hA
      clear hlt hA hcl2 hslb
      go_upto_region 11 with fail
      go_region_held3 (fun W' => W'.cell? ⟨w.heap.size, 0, none⟩ = some (.pointer (some ⟨V, 0, none⟩)) ∧ W'.cell? ⟨bs, 0, none⟩ = some (.slice p6 (hds.length + frs.length) c6) ∧ W'.cell? ⟨V, 0, none⟩ = some (.pointer (some ⟨D, 0, none⟩)))
        (first | (with_reducible refine mk2 _ ?_; first | with_reducible exact hdw | with_reducible exact hb7) | fail)
        (first | (go_at_call 16; (with_reducible refine hroom2.mono ?_); rintro e w7 ⟨rfl, hb7⟩))
      obtain ⟨s1, s2, s3⟩ := mk2 _ hb7
      go_wp2
      go_ret
      rw [HA.out]
      exact ⟨rfl, HH.out.below (bel_call HBW2.out hb7)⟩
    · have hA : d.compV x ls = if (seqD (compL x ls) d).1 = 0 then (0, (seqD (compL x ls) d).2, ⟨1 - x.file, x.gen + 1, ls.length, false⟩) else ((seqD (compL x ls) d).1, (seqD (compL x ls) d).2, { x with broken := true }) := by
        unfold Dk.compV
        rw [if_neg (by simp [HM0.out]), if_neg (by omega), if_neg (by rw [HOFF.out]; simp), if_neg (by rw [hslb, ← hcl2]; exact hlt)]
      have hd1 : decide (roomF d + sl < ((hds.length + frs.length : Nat) : Int)) = false := decide_eq_false hlt
      have hd2 : decide (roomF d + sl < (hds.length : Int) + (frs.length : Int)) = false := decide_eq_false (by omega)
      have HA := Lib.hid hA
      clear hlt hA hcl2 hslb
      go_upto_region 11 with fail
      go_region_held3 (fun W' => W'.cell? ⟨w.heap.size, 0, none⟩ = some (.pointer (some ⟨V, 0, none⟩)) ∧ W'.cell? ⟨bs, 0, none⟩ = some (.slice p6 (hds.length + frs.length) c6) ∧ W'.cell? ⟨V, 0, none⟩ = some (.pointer (some ⟨D, 0, none⟩)))
        (first | (with_reducible refine mk2 _ ?_; first | with_reducible exact hdw | with_reducible exact hb7) | fail)
        (first | (go_at_call 16; (with_reducible refine hroom2.mono ?_); rintro e w7 ⟨rfl, hb7⟩))
      obtain ⟨s1, s2, s3⟩ := mk2 _ hb7
      have cl7 := (hb7.cell (block_lt_of_cell cl)).trans cl
      have co7 := (hb7.cell (block_lt_of_cell co)).trans co
      have h7 := HH.out.keep (bel_call HBW2.out hb7)
      have hb8 : RowKit.Below w7.heap.size w7 (w7.alloc (.cells #[.func (.func 48) #[] #[.pointer (some ⟨w.heap.size, 0, none⟩), .pointer (some ⟨bo, 0, none⟩)], .func (.func 49) #[] #[.pointer (some ⟨w.heap.size, 0, none⟩), .pointer (some ⟨bo, 0, none⟩), .pointer (some ⟨bs, 0, none⟩)], .func (.func 50) #[] #[.pointer (some ⟨w.heap.size, 0, none⟩), .pointer (some ⟨bo, 0, none⟩)], .func (.func 51) #[] #[.pointer (some ⟨w.heap.size, 0, none⟩)], .func (.func 53) #[] #[.pointer (some ⟨bo, 0, none⟩), .pointer (some ⟨w.heap.size, 0, none⟩), .pointer (some ⟨w.heap.size + 1, 0, none⟩)]] 54)).drew := (bel_alloc (RowKit.Below.refl _ _) _).drew
      have cg : ∀ j, (w7.alloc (.cells #[.func (.func 48) #[] #[.pointer (some ⟨w.heap.size, 0, none⟩), .pointer (some ⟨bo, 0, none⟩)], .func (.func 49) #[] #[.pointer (some ⟨w.heap.size, 0, none⟩), .pointer (some ⟨bo, 0, none⟩), .pointer (some ⟨bs, 0, none⟩)], .func (.func 50) #[] #[.pointer (some ⟨w.heap.size, 0, none⟩), .pointer (some ⟨bo, 0, none⟩)], .func (.func 51) #[] #[.pointer (some ⟨w.heap.size, 0, none⟩)], .func (.func 53) #[] #[.pointer (some ⟨bo, 0, none⟩), .pointer (some ⟨w.heap.size, 0, none⟩), .pointer (some ⟨w.heap.size + 1, 0, none⟩)]] 54)).drew.cell? ⟨w7.heap.size, j, none⟩ = (#[.func (.func 48) #[] #[.pointer (some ⟨w.heap.size, 0, none⟩), .pointer (some ⟨bo, 0, none⟩)], .func (.func 49) #[] #[.pointer (some ⟨w.heap.size, 0, none⟩), .pointer (some ⟨bo, 0, none⟩), .pointer (some ⟨bs, 0, none⟩)], .func (.func 50) #[] #[.pointer (some ⟨w.heap.size, 0, none⟩), .pointer (some ⟨bo, 0, none⟩)], .func (.func 51) #[] #[.pointer (some ⟨w.heap.size, 0, none⟩)], .func (.func 53) #[] #[.pointer (some ⟨bo, 0, none⟩), .pointer (some ⟨w.heap.size, 0, none⟩), .pointer (some ⟨w.heap.size + 1, 0, none⟩)]] : Array Value)[j]? := fun j => cell_of_row _ _ _ _ _ _ (heap_alloc_new _ _)
      have hs7 := (bel_call HBW2.out hb7).size
      have hrr : RdS (w7.alloc (.cells #[.func (.func 48) #[] #[.pointer (some ⟨w.heap.size, 0, none⟩), .pointer (some ⟨bo, 0, none⟩)], .func (.func 49) #[] #[.pointer (some ⟨w.heap.size, 0, none⟩), .pointer (some ⟨bo, 0, none⟩), .pointer (some ⟨bs, 0, none⟩)], .func (.func 50) #[] #[.pointer (some ⟨w.heap.size, 0, none⟩), .pointer (some ⟨bo, 0, none⟩)], .func (.func 51) #[] #[.pointer (some ⟨w.heap.size, 0, none⟩)], .func (.func 53) #[] #[.pointer (some ⟨bo, 0, none⟩), .pointer (some ⟨w.heap.size, 0, none⟩), .pointer (some ⟨w.heap.size + 1, 0, none⟩)]] 54)).drew ρ (.slice p6 (hds.length + frs.length) c6) (compS x ls) := by rw [HCS.out]; exact (HROW.out.keep (bel_call hb7 hb8)).rds HH.out.disk.fresh
      have ka := compV_all (h7.keep hb8) hz hk hm hf ls hsz ⟨hg0, by omega⟩ w.heap.size bo bs (w.heap.size + 1) w7.heap.size 5 (.slice p6 (hds.length + frs.length) c6) p cap
        ((hb8.cell (block_lt_of_cell s1)).trans s1) ((hb8.cell (block_lt_of_cell co7)).trans co7) ((hb8.cell (block_lt_of_cell s2)).trans s2) hrr ((hb8.cell (block_lt_of_cell cl7)).trans cl7)
        (HH.out.disk.fresh _ (Nat.le_refl _)) (HH.out.disk.fresh _ hbo) (HH.out.disk.fresh _ hbs) (HH.out.disk.fresh _ (by omega)) (HH.out.disk.fresh _ hs7) (cg 0) (cg 1) (cg 2) (cg 3) (cg 4)
      have hmf : ∀ (fn : Fn) (first cap : Array Value) (w : World), (Instr.makeFunc fn first cap).run Tryz.prog w = .ok (.func fn first cap) w := fun _ _ _ _ => rfl
      generalize seqD (compL x ls) d = rr at *
      obtain ⟨r, d'⟩ := rr
      dsimp only at ka
      have ka2 : Calls Tryz.prog 31 #[.slice (some ⟨w7.heap.size, 0, none⟩) 5 5] (w7.alloc (.cells #[.func (.func 48) #[] #[.pointer (some ⟨w.heap.size, 0, none⟩), .pointer (some ⟨bo, 0, none⟩)], .func (.func 49) #[] #[.pointer (some ⟨w.heap.size, 0, none⟩), .pointer (some ⟨bo, 0, none⟩), .pointer (some ⟨bs, 0, none⟩)], .func (.func 50) #[] #[.pointer (some ⟨w.heap.size, 0, none⟩), .pointer (some ⟨bo, 0, none⟩)], .func (.func 51) #[] #[.pointer (some ⟨w.heap.size, 0, none⟩)], .func (.func 53) #[] #[.pointer (some ⟨bo, 0, none⟩), .pointer (some ⟨w.heap.size, 0, none⟩), .pointer (some ⟨w.heap.size + 1, 0, none⟩)]] 54)).drew fun e w' => e = .returned (.int .i64 r) ∧ VLeft2 ρ B D V (w7.alloc (.cells #[.func (.func 48) #[] #[.pointer (some ⟨w.heap.size, 0, none⟩), .pointer (some ⟨bo, 0, none⟩)], .func (.func 49) #[] #[.pointer (some ⟨w.heap.size, 0, none⟩), .pointer (some ⟨bo, 0, none⟩), .pointer (some ⟨bs, 0, none⟩)], .func (.func 50) #[] #[.pointer (some ⟨w.heap.size, 0, none⟩), .pointer (some ⟨bo, 0, none⟩)], .func (.func 51) #[] #[.pointer (some ⟨w.heap.size, 0, none⟩)], .func (.func 53) #[] #[.pointer (some ⟨bo, 0, none⟩), .pointer (some ⟨w.heap.size, 0, none⟩), .pointer (some ⟨w.heap.size + 1, 0, none⟩)]] 54)).drew d' (if r = 0 then ⟨1 - x.file, x.gen + 1, ls.length, x.broken⟩ else x) w' := ka.mono fun e w' ⟨he, h0, h1⟩ => ⟨he, by
        by_cases hr : r = 0
        · rw [if_pos hr]; exact h0 hr
        · rw [if_neg hr]; exact h1 hr⟩
      have hr0 := HH.out.disk.fresh w.heap.size (Nat.le_refl _)
      have hVne : w.heap.size ≠ V := fun e => by have := HH.out.role; rw [← e] at this; omega
      have cell5 : ∀ ρ5 w8, MvV ρ ρ5 V (w7.alloc (.cells #[.func (.func 48) #[] #[.pointer (some ⟨w.heap.size, 0, none⟩), .pointer (some ⟨bo, 0, none⟩)], .func (.func 49) #[] #[.pointer (some ⟨w.heap.size, 0, none⟩), .pointer (some ⟨bo, 0, none⟩), .pointer (some ⟨bs, 0, none⟩)], .func (.func 50) #[] #[.pointer (some ⟨w.heap.size, 0, none⟩), .pointer (some ⟨bo, 0, none⟩)], .func (.func 51) #[] #[.pointer (some ⟨w.heap.size, 0, none⟩)], .func (.func 53) #[] #[.pointer (some ⟨bo, 0, none⟩), .pointer (some ⟨w.heap.size, 0, none⟩), .pointer (some ⟨w.heap.size + 1, 0, none⟩)]] 54)).drew w8 → w8.cell? ⟨w.heap.size, 0, none⟩ = some (.pointer (some ⟨V, 0, none⟩)) := fun ρ5 w8 m5 => (World.cell?_of_block (a := ⟨w.heap.size, 0, none⟩) (m5.block w.heap.size (Nat.lt_of_lt_of_le (block_lt_of_cell s1) hb8.size) (.inl hr0))).trans ((hb8.cell (block_lt_of_cell s1)).trans s1)
      have s1d : w7.drew.cell? ⟨w.heap.size, 0, none⟩ = some (.pointer (some ⟨V, 0, none⟩)) := s1
      have s1g : (w7.alloc (.cells #[.func (.func 48) #[] #[.pointer (some ⟨w.heap.size, 0, none⟩), .pointer (some ⟨bo, 0, none⟩)], .func (.func 49) #[] #[.pointer (some ⟨w.heap.size, 0, none⟩), .pointer (some ⟨bo, 0, none⟩), .pointer (some ⟨bs, 0, none⟩)], .func (.func 50) #[] #[.pointer (some ⟨w.heap.size, 0, none⟩), .pointer (some ⟨bo, 0, none⟩)], .func (.func 51) #[] #[.pointer (some ⟨w.heap.size, 0, none⟩)], .func (.func 53) #[] #[.pointer (some ⟨bo, 0, none⟩), .pointer (some ⟨w.heap.size, 0, none⟩), .pointer (some ⟨w.heap.size + 1, 0, none⟩)]] 54)).drew.cell? ⟨w.heap.size, 0, none⟩ = some (.pointer (some ⟨V, 0, none⟩)) := (hb8.cell (block_lt_of_cell s1)).trans s1
      obtain ⟨bq, hbq⟩ : ∃ bq, decide (r ≠ 0) = bq := ⟨_, rfl⟩
      have kept5 : ∀ w8 x8, VaAt w8 V D x8 → Calls Tryz.prog 39 #[.pointer (some ⟨V, 0, none⟩), .int .i64 r] w8 fun e w' => e = .returned (.int .i64 r) ∧ w' = w8.setCell ⟨V, 4, none⟩ (.bool bq) := fun w8 x8 h8 => by rw [← hbq]; exact vkept_c h8 r
      have HBQ := Lib.hid hbq
      clear hbq
      have fin : ∀ ρ5 w8, VD w8 ρ5 B D V d' (if r = 0 then ⟨1 - x.file, x.gen + 1, ls.length, x.broken⟩ else x) → MvV ρ ρ5 V (w7.alloc (.cells #[.func (.func 48) #[] #[.pointer (some ⟨w.heap.size, 0, none⟩), .pointer (some ⟨bo, 0, none⟩)], .func (.func 49) #[] #[.pointer (some ⟨w.heap.size, 0, none⟩), .pointer (some ⟨bo, 0, none⟩), .pointer (some ⟨bs, 0, none⟩)], .func (.func 50) #[] #[.pointer (some ⟨w.heap.size, 0, none⟩), .pointer (some ⟨bo, 0, none⟩)], .func (.func 51) #[] #[.pointer (some ⟨w.heap.size, 0, none⟩)], .func (.func 53) #[] #[.pointer (some ⟨bo, 0, none⟩), .pointer (some ⟨w.heap.size, 0, none⟩), .pointer (some ⟨w.heap.size + 1, 0, none⟩)]] 54)).drew w8 → (Ending.returned (.int .i64 r) = .returned (.int .i64 (d.compV x ls).1) ∧ VLeft2 ρ B D V w (d.compV x ls).2.1 (d.compV x ls).2.2 (w8.setCell ⟨V, 4, none⟩ (.bool bq))) := fun ρ5 w8 hv8 m8 => by
        rw [HA.out]
        have hlx := (⟨ρ5, hv8.setB bq, ((MvV.ofBelow ρ V (bel_call HBW2.out (bel_call hb7 hb8))).trans m8).set hv8.role 4 _⟩ : VLeft2 ρ B D V w d' _ (w8.setCell ⟨V, 4, none⟩ (.bool bq)))
        by_cases hr : r = 0
        · rw [if_pos hr]
          have e : ({ (if r = 0 then (⟨1 - x.file, x.gen + 1, ls.length, x.broken⟩ : Va) else x) with broken := bq } : Va) = ⟨1 - x.file, x.gen + 1, ls.length, false⟩ := by rw [if_pos hr, ← HBQ.out, decide_eq_false (by simp [hr])]
          rw [e] at hlx
          exact ⟨by rw [hr], hlx⟩
        · rw [if_neg hr]
          have e : ({ (if r = 0 then (⟨1 - x.file, x.gen + 1, ls.length, x.broken⟩ : Va) else x) with broken := bq } : Va) = { x with broken := true } := by rw [if_neg hr, ← HBQ.out, decide_eq_true hr]
          rw [e] at hlx
          exact ⟨rfl, hlx⟩
      have FIN := Lib.hid fin
      have KA := Lib.hid ka2
      have CELL5 := Lib.hid cell5
      have KEPT5 := Lib.hid kept5
      clear fin ka ka2 cg hrr hb8 h7 cell5 kept5 mk2 mk3 hrw hd1 hd2 hroom2 r1 r2 r3 s2 s3 cl7 co7
      go_upto_region 13 with fail
      refine wp_region_held_drew (S := fun W' => W'.cell? ⟨w.heap.size, 0, none⟩ = some (.pointer (some ⟨V, 0, none⟩))) (by kernel_rfl) s1d (fun hHeld => ?_)
      refine wpAnyH_take (i := 0) (oi := ?_) (v := .pointer (some ⟨V, 0, none⟩)) ?_ (by kernel_rfl) (by kernel_rfl) (by kernel_rfl) ?_ (Or.inl ⟨?_, ?_⟩) (by assumption) ?_
      rotate_left 1
      · simp only [List.getElem?_toArray, List.getElem?_cons_zero]; rfl
      · exact fun _ _ _ h => h
      · rfl
      · intro w hSw
        go_simp
      try simp only [Act.put, List.setIfInBounds_toArray, List.set_cons_zero, List.set_cons_succ]
      refine wpAnyH_take (i := 1) (oi := ?_) (v := .func (.func 48) #[] #[.pointer (some ⟨w.heap.size, 0, none⟩), .pointer (some ⟨bo, 0, none⟩)]) ?_ (by kernel_rfl) (by kernel_rfl) (by kernel_rfl) ?_ (Or.inl ⟨?_, ?_⟩) (by assumption) ?_
      rotate_left 1
      · simp only [List.getElem?_toArray, List.getElem?_cons_succ, List.getElem?_cons_zero]; rfl
      · exact fun _ _ _ h => h
      · rfl
      · intro w hSw
        go_simp
      try simp only [Act.put, List.setIfInBounds_toArray, List.set_cons_zero, List.set_cons_succ]
      refine wpAnyH_take (i := 2) (oi := ?_) (v := .func (.func 49) #[] #[.pointer (some ⟨w.heap.size, 0, none⟩), .pointer (some ⟨bo, 0, none⟩), .pointer (some ⟨bs, 0, none⟩)]) ?_ (by kernel_rfl) (by kernel_rfl) (by kernel_rfl) ?_ (Or.inl ⟨?_, ?_⟩) (by assumption) ?_
      rotate_left 1
      · simp only [List.getElem?_toArray, List.getElem?_cons_succ, List.getElem?_cons_zero]; rfl
      · exact fun _ _ _ h => h
      · rfl
      · intro w hSw
        go_simp
      try simp only [Act.put, List.setIfInBounds_toArray, List.set_cons_zero, List.set_cons_succ]
      refine wpAnyH_take (i := 3) (oi := ?_) (v := .func (.func 50) #[] #[.pointer (some ⟨w.heap.size, 0, none⟩), .pointer (some ⟨bo, 0, none⟩)]) ?_ (by kernel_rfl) (by kernel_rfl) (by kernel_rfl) ?_ (Or.inl ⟨?_, ?_⟩) (by assumption) ?_
      rotate_left 1
      · simp only [List.getElem?_toArray, List.getElem?_cons_succ, List.getElem?_cons_zero]; rfl
      · exact fun _ _ _ h => h
      · rfl
      · intro w hSw
        go_simp
      try simp only [Act.put, List.setIfInBounds_toArray, List.set_cons_zero, List.set_cons_succ]
      refine wpAnyH_take (i := 4) (oi := ?_) (v := .func (.func 51) #[] #[.pointer (some ⟨w.heap.size, 0, none⟩)]) ?_ (by kernel_rfl) (by kernel_rfl) (by kernel_rfl) ?_ (Or.inl ⟨?_, ?_⟩) (by assumption) ?_
      rotate_left 1
      · simp only [List.getElem?_toArray, List.getElem?_cons_succ, List.getElem?_cons_zero]; rfl
      · exact fun _ _ _ h => h
      · rfl
      · intro w hSw
        go_simp
      try simp only [Act.put, List.setIfInBounds_toArray, List.set_cons_zero, List.set_cons_succ]
      refine wpAnyH_take (i := 5) (oi := ?_) (v := .func (.func 53) #[] #[.pointer (some ⟨bo, 0, none⟩), .pointer (some ⟨w.heap.size, 0, none⟩), .pointer (some ⟨w.heap.size + 1, 0, none⟩)]) ?_ (by kernel_rfl) (by kernel_rfl) (by kernel_rfl) ?_ (Or.inl ⟨?_, ?_⟩) (by assumption) ?_
      rotate_left 1
      · simp only [List.getElem?_toArray, List.getElem?_cons_succ, List.getElem?_cons_zero]; rfl
      · exact fun _ _ _ h => h
      · rfl
      · intro w hSw
        go_simp
      try simp only [Act.put, List.setIfInBounds_toArray, List.set_cons_zero, List.set_cons_succ]
      refine wpAnyH_one 6 (o := ?_) (by kernel_rfl) ?_ (fun K hK => ?_)
      rotate_left 1
      · simp only [List.getElem?_toArray, List.getElem?_cons_succ, List.getElem?_cons_zero]; rfl
      go_simp
      refine hK.out _ _ s1g (fun hH => ?_)
      clear hH hK K
      try simp only [Act.put, List.setIfInBounds_toArray, List.set_cons_zero, List.set_cons_succ]
      refine wpAnyH_one 7 (o := ?_) (by kernel_rfl) ?_ (fun K hK => ?_)
      rotate_left 1
      · simp only [List.getElem?_toArray, List.getElem?_cons_succ, List.getElem?_cons_zero]; rfl
      go_simp
      refine KA.out.mono ?_
      rintro e w8 ⟨rfl, hl8⟩
      obtain ⟨ρ5, hv8, m8⟩ := hl8
      have t1 := CELL5.out _ _ m8
      refine hK.out _ _ t1 (fun hH => ?_)
      clear hH hK K
      try simp only [Act.put, List.setIfInBounds_toArray, List.set_cons_zero, List.set_cons_succ]
      refine wpAnyH_one 8 (o := ?_) (by kernel_rfl) ?_ (fun K hK => ?_)
      rotate_left 1
      · simp only [List.getElem?_toArray, List.getElem?_cons_succ, List.getElem?_cons_zero]; rfl
      go_simp
      refine (KEPT5.out _ _ hv8.va).mono ?_
      rintro e w9 ⟨rfl, rfl⟩
      have t2 : (w8.setCell ⟨V, 4, none⟩ (.bool bq)).cell? ⟨w.heap.size, 0, none⟩ = some (.pointer (some ⟨V, 0, none⟩)) := (World.cell?_of_block (a := ⟨w.heap.size, 0, none⟩) (set_heap hVne)).trans t1
      refine hK.out _ _ t2 (fun hH => ?_)
      clear hH hK K
      try simp only [Act.put, List.setIfInBounds_toArray, List.set_cons_zero, List.set_cons_succ]
      refine wpAnyH_one 9 (o := ?_) (by kernel_rfl) ?_ (fun K hK => ?_)
      rotate_left 1
      · simp only [List.getElem?_toArray, List.getElem?_cons_succ, List.getElem?_cons_zero]; rfl
      go_simp
      refine hK.out _ _ t2 (fun hH => ?_)
      clear hH hK K
      try simp only [Act.put, List.setIfInBounds_toArray, List.set_cons_zero, List.set_cons_succ]
      refine wpAnyH_done (by kernel_rfl) ?_ _
      go_wp2
      go_ret
      exact FIN.out _ _ hv8 m8

theorem comp_all_c {w : World} {ρ : Nat → Nat} {B D V : Nat} {d : Dk} {x : Va} {k m : Nat} (h : VD w ρ B D V d x) (hz : DSz d k m) (hk : k ≤ 900000) (hm : m ≤ 9000000) (ht : KTab w) (hf : x.file < 2) (v : Value) (ls : List (List Int)) (hv : RdL w v ls) (hlb : ∀ r ∈ ls, Bytes r) (hsz : sizeI ls ≤ 10000000) (hln : ls.length ≤ 250000) (hg0 : 0 ≤ x.gen) :
    Calls Tryz.prog 20 #[.pointer (some ⟨V, 0, none⟩), v] w fun e w' => e = .returned (.int .i64 (d.compV x ls).1) ∧ VLeft2 ρ B D V w (d.compV x ls).2.1 (d.compV x ls).2.2 w' := by
  by_cases hm0 : vmayv x.broken ls = 0
  case neg =>
    have hA : d.compV x ls = (vmayv x.broken ls, d, x) := by unfold Dk.compV; rw [if_pos hm0]
    rw [hA]
    exact comp_no h v ls hv hln hm0
  by_cases hg : x.gen < 4611686018427387904
  case neg =>
    have hA : d.compV x ls = (6, d, x) := by unfold Dk.compV; rw [if_neg (by simp [hm0]), if_pos (by omega)]
    rw [hA]
    exact comp_many h v ls hv hln hm0 (by omega)
  by_cases hoff : d.off = true
  · have hA : d.compV x ls = (8, d, { x with broken := true }) := by unfold Dk.compV; rw [if_neg (by simp [hm0]), if_neg (by omega), if_pos hoff]
    rw [hA]
    exact comp_off h hz hk hm hf v ls hv hln hm0 hg hoff
  · exact comp_ok h hz hk hm ht hf v ls hv hlb hsz hln hm0 hg0 hg (by simpa using hoff)
end Go.Proofs.YtfohemgfiidokaaGreatDoor
