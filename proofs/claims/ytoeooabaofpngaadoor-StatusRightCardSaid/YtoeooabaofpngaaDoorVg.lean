/- A map whose keys are hashes; may a history be? -/
import Derived.Test.YtoeooabaofpngaaDoorVf
import Derived.MapKept
import Derived.WideKeyRuns
import Derived.Carry
import Derived.Maps.OwnOps
namespace Go.Proofs.YtoeooabaofpngaaDoor
open Go.RowKit Go.Sort
attribute [local go_sem ↓] Go.wp_at_zero Go.wp_at_succ

theorem run_checkKey_ints {P : Program} (w : World) (em : Bool) (d : Nat) (t e : TypeId) (q : IntKind) (n : Nat) (ht : P.underlying t = some (.array n e)) (he : P.underlying e = some (.int q)) (hsz : ∀ w, (sizeOf e).run P w = .ok 1 w)
    (xs : List Int) (hx : xs.length = n) : (Instr.checkKey em (d + 2) t (.agg (xs.map (Value.int q)).toArray)).run P w = .ok () w := by
  rw [Instr.checkKey]
  simp only [Sem.run_bind, run_underlying ht, Result.andThen_ok, Std.Legacy.Range.forIn_eq_forIn_range', Std.Legacy.Range.size, Nat.sub_zero, Nat.add_sub_cancel, Nat.div_one]
  have hl : ∀ i ∈ List.range' 0 n 1, i < n := fun i hi => by simpa using (List.mem_range'_1.1 hi).2
  generalize List.range' 0 n 1 = l at hl ⊢
  induction l with
  | nil => simp
  | cons i l ih =>
    have hi : i < n := hl i (by simp)
    have px : (part e (xs.map (Value.int q)).toArray (i * 1)).run P w = .ok (.int q (xs.getD i 0)) w := by
      simp [part, isAgg, run_underlying he, List.getD, List.getElem?_eq_getElem (show i < xs.length by omega)]
    have pe : (Instr.checkKey em (d + 1) e (.int q (xs.getD i 0))).run P w = .ok () w := by
      rw [Instr.checkKey]
      simp [run_underlying he]
    simp only [List.forIn_cons, Sem.run_bind, hsz, px, pe, Result.andThen_ok, Sem.run_pure]
    exact ih fun j hj => hl j (by simp [hj])
/-- a map of hashes, each once -/
def HMap (b : Nat) (ts : List (List Int)) (w : World) : Prop := ∃ es clock, w.heap[b]? = some (.map es clock) ∧ es.toList.map (·.key) = ts.map hsh ∧ ∀ e ∈ es.toList, ∃ z, e.val = .int .i64 z
theorem HMap.lt {b : Nat} {ts : List (List Int)} {w : World} (h : HMap b ts w) : b < w.heap.size := by
  obtain ⟨es, clock, hb, _⟩ := h
  exact (Array.getElem?_eq_some_iff.1 hb).1
theorem HMap.below {b B : Nat} {ts : List (List Int)} {w w' : World} (h : HMap b ts w) (hb : Below B w w') (hB : b < B) : HMap b ts w' := by
  obtain ⟨es, clock, h1, h2⟩ := h
  exact ⟨es, clock, by rw [hb.block b hB]; exact h1, h2⟩
theorem HMap.call {b : Nat} {ts : List (List Int)} {w w' : World} (h : HMap b ts w) (hb : Below w.heap.size w w') : HMap b ts w' := h.below hb h.lt
theorem run_find_hash (w : World) (t : List Int) (ht : t.length = 32) : ∀ (es : List MapEntry) (ts : List (List Int)) (i : Nat), es.map (·.key) = ts.map hsh → (∀ t' ∈ ts, t'.length = 32) → (∀ e ∈ es, ∃ z, e.val = .int .i64 z) →
    (t ∈ ts ∧ ∃ j z, (Instr.findAsking 27 (hsh t) es i).run Tryd.prog w = .ok (some (j, .int .i64 z)) w) ∨ (t ∉ ts ∧ (Instr.findAsking 27 (hsh t) es i).run Tryd.prog w = .ok none w)
  | [], [], i, _, _, _ => .inr ⟨by simp, by simp [Instr.findAsking]⟩
  | [], _ :: _, i, h, _, _ => by simp at h
  | _ :: _, [], i, h, _, _ => by simp at h
  | e :: es, t' :: ts, i, h, hl, hz => by
    simp only [List.map_cons, List.cons.injEq] at h
    have hq : (Op.equal 27 (hsh t) e.key).run Tryd.prog w = .ok (t == t') w := by
      rw [h.1]
      exact run_equalIn_ints w 9998 27 5 .u8 32 u_hash Tryd.underlying5 Tryd.sizeOf5 t t' ht (hl t' (by simp))
    by_cases heq : t = t'
    · subst heq
      obtain ⟨z, hz⟩ := hz e (by simp)
      refine .inl ⟨by simp, i, z, ?_⟩
      simp [Instr.findAsking, hq, hz]
    · have hqf : (t == t') = false := by simpa using heq
      rw [hqf] at hq
      rcases run_find_hash w t ht es ts (i + 1) h.2 (fun x hx => hl x (by simp [hx])) (fun x hx => hz x (by simp [hx])) with ⟨h1, j, z, h2⟩ | ⟨h1, h2⟩
      · exact .inl ⟨by simp [h1], j, z, by simp [Instr.findAsking, hq, h2]⟩
      · exact .inr ⟨by simp [h1, heq], by simp [Instr.findAsking, hq, h2]⟩
theorem u_hmap : Tryd.prog.underlying 43 = some (.map 27 3) := Tryd.underlying43
theorem run_lookup_hash (w : World) (b : Nat) (ts : List (List Int)) (t : List Int) (h : HMap b ts w) (ht : t.length = 32) (hl : ∀ t' ∈ ts, t'.length = 32) :
    ∃ z r, (Instr.lookup 43 (.map (some b)) (hsh t) true).run Tryd.prog w = .ok (.tuple #[.int .i64 z, .bool r]) w ∧ (r = true ↔ t ∈ ts) := by
  obtain ⟨es, clock, hb, hk, hz⟩ := h
  have hc := fun em => run_checkKey_ints (P := Tryd.prog) w em 9998 27 5 .u8 32 u_hash Tryd.underlying5 Tryd.sizeOf5 t ht
  have hf := run_findKey_eq (P := Tryd.prog) (k := 27) (w := w) (by rw [u_hash]) (hsh t) es.toList
  rcases run_find_hash w t ht es.toList ts 0 hk hl hz with ⟨h1, j, z, h2⟩ | ⟨h1, h2⟩
  · rw [h2] at hf
    refine ⟨z, true, ?_, by simp [h1]⟩
    unfold hsh at hf ⊢
    simp [Instr.lookup, run_underlying u_hmap, MapKept.run_getObj_map hb, hc, hf, Result.andThen]
  · rw [h2] at hf
    refine ⟨0, false, ?_, by simp [h1]⟩
    unfold hsh at hf ⊢
    simp [Instr.lookup, run_underlying u_hmap, MapKept.run_getObj_map hb, hc, hf, Tryd.zeroValue3, Result.andThen]
theorem run_update_hash (w : World) (b : Nat) (ts : List (List Int)) (t : List Int) (z : Int) (h : HMap b ts w) (ht : t.length = 32) (hl : ∀ t' ∈ ts, t'.length = 32) (hn : t ∉ ts) :
    ∃ w', (Instr.mapUpdate 43 (.map (some b)) (hsh t) (.int .i64 z)).run Tryd.prog w = .ok () w' ∧ HMap b (ts ++ [t]) w' ∧ w.grownBy w' (some b) := by
  obtain ⟨es, clock, hb, hk, hz⟩ := h
  have hc := fun em => run_checkKey_ints (P := Tryd.prog) w em 9998 27 5 .u8 32 u_hash Tryd.underlying5 Tryd.sizeOf5 t ht
  have hf := run_findKey_eq (P := Tryd.prog) (k := 27) (w := w) (by rw [u_hash]) (hsh t) es.toList
  rcases run_find_hash w t ht es.toList ts 0 hk hl hz with ⟨h1, j, z, h2⟩ | ⟨h1, h2⟩
  · exact absurd h1 hn
  · rw [h2] at hf
    have hlt := (Array.getElem?_eq_some_iff.1 hb).1
    refine ⟨{ w with heap := w.heap.setIfInBounds b (.map (es.push { key := hsh t, val := .int .i64 z, born := clock }) (clock + 1)) }, ?_, ⟨es.push { key := hsh t, val := .int .i64 z, born := clock }, clock + 1, by simp [hlt], ?_, ?_⟩, ⟨rfl, rfl, rfl, by simp, fun k hk hne => ?_⟩⟩
    · unfold hsh at hf ⊢
      simp [Instr.mapUpdate, run_underlying u_hmap, MapKept.run_getObj_map hb, hc, hf, MapKept.run_setObj_map _ hb, Result.andThen]
    · simp [hk]
    · intro e he
      simp at he
      rcases he with he | rfl
      · exact hz e (by simpa using he)
      · exact ⟨_, rfl⟩
    · have hne' : b ≠ k := fun e => hne (by rw [e])
      simp [hne']
theorem wpList_lookup_hash {w : World} {ops : Array Oper} {rest : List Oper} {o : Oper} {a : Act} {Q : Exit → Act → World → Prop} (hg : o.guard = none) (m x : Operand) (hop : o.op = Op.lookup 43 m x true)
    (b : Nat) (ts : List (List Int)) (t : List Int) (hm : a.eval m = .map (some b)) (hx : a.eval x = .agg (t.map (Value.int .u8)).toArray) (h : HMap b ts w) (ht : t.length = 32) (hl : ∀ t' ∈ ts, t'.length = 32)
    (hK : ∀ z r, (r = true ↔ t ∈ ts) → wpList Tryd.prog ops Q rest (a.put o.dst (.tuple #[.int .i64 z, .bool r])) w) : wpList Tryd.prog ops Q (o :: rest) a w := by
  refine wpList_plain hg fun K' hK' => ?_
  obtain ⟨z, r, hrun, hr⟩ := run_lookup_hash w b ts t h ht hl
  unfold hsh at hrun
  unfold Oper.wp
  simp [execOp, hop, hm, hx, hrun, Result.andThen]
  exact hK' _ _ (hK z r hr)
set_option maxRecDepth 100000 in
set_option maxHeartbeats 4000000 in
theorem right_c (v : Value) (l : List En) (w : World) (h : RdE w v l) (ok : EnsOk l) (hl : l.length ≤ 100000) :
    Calls Tryd.prog 9 #[v] w fun e w' => e = .returned (.bool (rgtB l)) ∧ Below w.heap.size w w' := by
  obtain ⟨p0, cap0, rfl⟩ := h.form
  have H := Lib.hid h
  have HOK := Lib.hid ok
  obtain ⟨zs, hzl, hz⟩ := zero_entry
  have HM := Lib.hid (show HMap w.heap.size (([] : List En).map En.t) (w.alloc (.map #[] 0)) ∧ Below w.heap.size w (w.alloc (.map #[] 0)) from ⟨⟨#[], 0, heap_alloc_new _ _, rfl, by simp⟩, bel_alloc (Below.refl _ _) _⟩)
  clear h ok
  have hmk := fun w => run_makeMap (P := Tryd.prog) 43 w
  go_enter Tryd.func9, Tryd.ntmps9
  go_wp2_with fail
  go_loopw [4, 12] (fun la c wr => ∃ k : Nat, k ≤ l.length ∧ c = .int .i64 k ∧ la = .int .i64 (lastH (l.take k)) ∧ HMap w.heap.size ((l.take k).map En.t) wr ∧ Below w.heap.size w wr ∧ Hid (Rgt (l.take k))) (fun _ c _ => l.length - (intOf c).toNat)
  case atStart => exact ⟨0, by omega, rfl, rfl, HM.out.1, HM.out.2, Lib.hid rgt_nil⟩
  case round =>
    clear HM
    obtain ⟨k, hk', rfl, rfl, hm, hB, hr⟩ := hrel
    by_cases hlt : k < l.length
    · obtain ⟨x, hx⟩ : ∃ x, l[k]? = some x := ⟨_, List.getElem?_eq_getElem hlt⟩
      have ox : x.Ok := HOK.out x (List.mem_of_getElem? hx)
      obtain ⟨g, o, cap, hform, hcap, hg, hcell⟩ := H.out.some (by omega)
      injection hform with hf1 _ hf2
      subst hf1; subst hf2
      have hrg := range_call' (hcell k x hx) hg hB
      have htk : l.take (k + 1) = l.take k ++ [x] := by rw [List.take_add_one, hx]; rfl
      have hBs := hB.size
      have hkt : (k : Int) < (l.length : Int) := by omega
      have hev33 := enV_len x ox
      have hev1 := enV_one x
      obtain ⟨ev, hev⟩ : ∃ ev, enV x = ev := ⟨_, rfl⟩
      have hrow0 : ev = .int .i64 x.h :: x.t.map (Value.int .u8) := by rw [← hev]; rfl
      rw [hev] at hrg hev33 hev1
      have HI := Lib.hid (infoEn ev.length hev33); have HI2 := Lib.hid (infoEn ev.toArray.size (by simpa using hev33)); have HEV := Lib.hid hev33; have HZL := Lib.hid hzl; have H1 := Lib.hid hev1
      have HROW := Lib.hid hrow0; have HTK := Lib.hid htk; have HOX := Lib.hid ox
      have HH := Lib.hid (And.intro hm hB)
      have hlo := ox.lo; have hhi := ox.hi
      clear hrow0 htk hev33 hev1 hev hx ox hcell hm hB hzl
      go_upto_region 5 with (first
        | (refine wpList_load_mid rfl 29 _ rfl g (o + k * 33) rfl ev _ hrg Tryd.underlying29 rfl HI.out ?_)
        | (refine wpList_store_row rfl 29 _ _ rfl _ rfl _ rfl 29 _ (heap_alloc_new _ _) HI2.out (by simp [HZL.out, HEV.out]) H1.out ?_))
      have hbr : Below wr.heap.size wr ((wr.alloc (.cells zs.toArray 29)).setRow wr.heap.size ev.toArray) := _root_.Go.below_setRow (bel_alloc (Below.refl _ _) _) (Nat.le_refl _) _
      have hrow : RowV 29 wr.heap.size ev ((wr.alloc (.cells zs.toArray 29)).setRow wr.heap.size ev.toArray) := setRow_heap _ _ _ _ 29 _ (heap_alloc_new _ _)
      refine wp_gen (fun W => RowV 29 wr.heap.size ev W ∧ HMap w.heap.size ((l.take k).map En.t) W ∧ Below w.heap.size w W) ⟨hrow, HH.out.1.call hbr, bel_call HH.out.2 hbr⟩ ?_
      clear hrow hbr hrg
      rintro W ⟨hrow, hm, hB⟩
      have hlt2 := hrow.lt
      have c0 := hrow.cell 0
      rw [HROW.out, List.getElem?_cons_zero] at c0
      have cr : W.rangeAt wr.heap.size 1 (x.t.map (Value.int .u8)) := fun j v hv => by
        rw [hrow.cell, HROW.out, Nat.add_comm]
        exact hv
      have hul := Tryd.underlying27
      have hiH := info27 (x.t.map (Value.int .u8)).length (by simp [HOX.out.l])
      have hts : ∀ t' ∈ (l.take k).map En.t, t'.length = 32 := by
        intro t' ht'
        obtain ⟨y, hy, rfl⟩ := List.mem_map.1 ht'
        exact (HOK.out y (List.mem_of_mem_take hy)).l
      have HTS := Lib.hid hts
      have HB := Lib.hid hB
      clear hts hB hrow
      simp only [Act.put]
      go_upto_region 6 with (first
        | (refine wpList_load_mid rfl 27 _ rfl wr.heap.size 1 rfl _ _ cr hul rfl hiH ?_)
        | (at_lookup; refine wpList_lookup_hash rfl _ _ rfl w.heap.size _ x.t rfl rfl hm HOX.out.l HTS.out ?_; rintro z r hr2))
      have hno : x.t ∈ (l.take k).map En.t ∨ x.h < lastH (l.take k) → rgtB l = false := fun hc => rgtB_no l (rgt_prefix l (k + 1) (by rw [HTK.out]; exact rgt_stop _ _ hc))
      have hyes : x.t ∉ (l.take k).map En.t → ¬ x.h < lastH (l.take k) → Rgt (l.take (k + 1)) ∧ lastH (l.take (k + 1)) = x.h ∧ (l.take (k + 1)).map En.t = (l.take k).map En.t ++ [x.t] := fun h1 h2 => ⟨by rw [HTK.out]; exact rgt_step _ _ hr.out h1 (by omega), by rw [HTK.out, lastH_snoc], by rw [HTK.out]; simp⟩
      have HNO := Lib.hid hno; have HYES := Lib.hid hyes; have HR2 := Lib.hid hr2
      clear hno hyes hr2
      generalize lastH (l.take k) = la at *
      generalize x.h = hh at *
      cases r with
      | true =>
        have hb := HNO.out (.inl (HR2.out.1 rfl))
        go_wp2_with fail
        go_ret
        exact ⟨rfl, HB.out⟩
      | false =>
        have hnt : x.t ∉ (l.take k).map En.t := fun h => by simpa using HR2.out.2 h
        by_cases hlast : hh < la
        · have hb := HNO.out (.inr hlast)
          go_wp2_with fail
          go_ret
          exact ⟨rfl, HB.out⟩
        · have HY := Lib.hid (HYES.out hnt hlast)
          have HNT := Lib.hid hnt
          have c0d : W.drew.cell? ⟨wr.heap.size, 0, none⟩ = some (.int .i64 hh) := c0
          have crd : W.drew.rangeAt wr.heap.size 1 (x.t.map (Value.int .u8)) := cr
          have hmd := hm.call (below_drewN W 1)
          have HBD := Lib.hid (show Below w.heap.size w W.drew from bel_call HB.out (below_drewN W 1))
          clear hnt HNO HYES HR2 cr hm HB
          go_upto_region 8 with fail
          clear c0
          have hneq := HH.out.1.lt
          have HK := Lib.hid (fun U (h : W.drew.grownBy U (some w.heap.size)) => (And.intro (fun j v hv => by rw [World.cell?_of_block (w := W.drew) (h.block wr.heap.size hlt2 (by simp; omega))]; exact crd j v hv) (by rw [World.cell?_of_block (w := W.drew) (h.block wr.heap.size hlt2 (by simp; omega))]; exact c0d) : U.rangeAt wr.heap.size 1 (x.t.map (Value.int .u8)) ∧ U.cell? ⟨wr.heap.size, 0, none⟩ = some (.int .i64 hh)))
          obtain ⟨w3, hup, hm3, hg3⟩ := run_update_hash W.drew _ _ x.t k hmd HOX.out.l HTS.out HNT.out
          unfold hsh at hup
          have hk3 := HK.out _ hg3
          obtain ⟨hk3a, hk3b⟩ := hk3
          clear hmd
          go_region_held3 (fun w' => w'.rangeAt wr.heap.size 1 (x.t.map (Value.int .u8)) ∧ w'.cell? ⟨wr.heap.size, 0, none⟩ = some (.int .i64 hh)) (first | exact ⟨crd, c0d⟩ | exact ⟨hk3a, hk3b⟩ | go_keep)
            (first | fail)
          all_goals go_wp2_with fail
          all_goals
            go_roundw
            case rel => exact ⟨k + 1, by omega, by go_num, by rw [HY.out.2.1], by rw [HY.out.2.2]; exact hm3, HBD.out.grown hg3 HBD.out.size (fun j hj => by cases hj; exact Nat.le_refl _), Lib.hid HY.out.1⟩
            case measure => simp [intOf]; omega
    · obtain rfl : k = l.length := by omega
      rw [List.take_length] at hr
      have hrb := (rgtB_iff l).2 hr.out
      go_wp2_with fail
      go_ret
      exact ⟨by rw [hrb]; rfl, hB⟩
end Go.Proofs.YtoeooabaofpngaaDoor
