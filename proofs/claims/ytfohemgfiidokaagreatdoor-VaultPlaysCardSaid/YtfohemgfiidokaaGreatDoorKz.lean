/- Steps that came in: how they are opened; heavy. Whether a list of steps is heavy; may that be found? -/
import Derived.Test.YtfohemgfiidokaaGreatDoorZb
import Derived.Test.YtfohemgfiidokaaGreatDoorYw
namespace Go.Proofs.YtfohemgfiidokaaGreatDoor
open Go.ChangeShapes Go.WideShapes Go.ChangeAt Go.RowKit

/-- picks that came in -/
def PkIn (w : World) (p : Option Addr) (len : Nat) (pk : Nat → Int) : Prop :=
  (∀ i, i < len → ∃ g o, p = some ⟨g, o, none⟩ ∧ w.cell? ⟨g, o + i, none⟩ = some (.int .i64 (pk i))) ∧ (∀ i, len ≤ i → pk i = 0) ∧ (∀ i, -9223372036854775808 ≤ pk i) ∧ (∀ i, pk i ≤ 9223372036854775807)
theorem PkIn.pkm {w W : World} {p : Option Addr} {len : Nat} {pk : Nat → Int} (h : PkIn w p len pk) (hb : Below w.heap.size w W) (lo hi : Nat) (hlo : w.heap.size ≤ lo) : PkM lo hi W p len pk :=
  ⟨fun i _ hl => by obtain ⟨g, o, h1, h2⟩ := h.1 i hl; exact ⟨g, o, h1, by rw [hb.cell (block_lt_of_cell h2)]; exact h2, .inl (Nat.lt_of_lt_of_le (block_lt_of_cell h2) hlo)⟩, fun i _ hl => h.2.1 i hl, fun i _ => h.2.2.1 i, fun i _ => h.2.2.2 i⟩
theorem open_picks_at {H : Type} {enc : TypeId × Value → H} {w : World} {base fuel : Nat} {spare : Nat → Bool} {held : Bool} {cs : List Value} {x : DataW H × List MemPlace}
    (hf : DataW.trod enc Tryz.prog w base spare held fuel 41 cs = some x) : ∃ p len cap pk, cs = [.slice p len cap] ∧ PkIn w p len pk ∧ (x.1 = .nil ∧ len = 0 ∨ ∃ es sp, x.1 = .slice es sp ∧ es.length = len) := by
  rcases open_ints Tryz.underlying41 Tryz.underlying3 (by kernel_rfl) hf with ⟨hcs, hx⟩ | ⟨a, len, cap, zs, hcs, hb, hlc, hm, hzl, hx, hel, hw⟩
  · exact ⟨none, 0, 0, fun _ => 0, hcs, ⟨fun i hi => by omega, fun i _ => rfl, fun i => by show (-9223372036854775808 : Int) ≤ 0; omega, fun i => by show (0 : Int) ≤ 9223372036854775807; omega⟩, .inl ⟨by rw [hx], rfl⟩⟩
  · have hll : len ≤ zs.length := by rw [hzl]; split <;> omega
    have hbd : ∀ i, i < len → -9223372036854775808 ≤ zs.getD i 0 ∧ zs.getD i 0 ≤ 9223372036854775807 := fun i hi => by
      have : zs.getD i 0 ∈ zs := by rw [List.getD_eq_getElem?_getD, List.getElem?_eq_getElem (by omega)]; exact List.getElem_mem _
      exact bounds_i64 (hw _ this)
    refine ⟨some a, len, cap, fun i => if i < len then zs.getD i 0 else 0, hcs, ⟨fun i hi => ⟨a.block, a.off, ?_, ?_⟩, fun i hi => if_neg (by omega), fun i => ?_, fun i => ?_⟩, .inr ⟨_, _, by rw [hx], by simp [lits]; omega⟩⟩
    · exact congrArg some (addr_plain (hel 0 (by omega)))
    · have h1 := hel i (by omega)
      rw [addr_plain (hel 0 (by omega)), Addr.add_lit] at h1
      rw [h1]
      exact congrArg (fun z => some (Value.int .i64 z)) (if_pos hi).symm
    · by_cases h : i < len
      · simp only [if_pos h]; exact (hbd i h).1
      · simp only [if_neg h]; omega
    · by_cases h : i < len
      · simp only [if_pos h]; exact (hbd i h).2
      · simp only [if_neg h]; omega
/-- a step: its number, its records, its disk's numbers, bytes and picks -/
structure StepV where
  a : Int
  lv : Value
  L : List (List Int)
  da : Int
  F : Int
  N : Int
  bv : Value
  B : List Int
  pp : Option Addr
  pl : Nat
  pc : Nat
  pk : Nat → Int
instance : Inhabited StepV := ⟨⟨0, .slice none 0 0, [], 0, 0, 0, .slice none 0 0, [], none, 0, 0, fun _ => 0⟩⟩
structure StepV.ok (w : World) (s : StepV) : Prop where
  a0 : 0 ≤ s.a
  a1 : s.a ≤ 255
  l : RdL w s.lv s.L
  lb : ∀ r ∈ s.L, Bytes r
  ll : s.L.length ≤ 10000000000000
  lr : ∀ r ∈ s.L, r.length ≤ 1000000000000000
  n0 : -9223372036854775808 ≤ s.N
  n1 : s.N ≤ 9223372036854775807
  b : RdB w s.bv s.B
  bl : s.B.length ≤ 1000000000000000
  p : PkIn w s.pp s.pl s.pk
  pz : s.pl ≤ 1000000000000000
  bb : Bytes s.B
  d0 : 0 ≤ s.da
  d1 : s.da ≤ 255
/-- the cells of step j -/
def StepCells (w : World) (g o j : Nat) (s : StepV) : Prop :=
  w.cell? ⟨g, o + j * 7, none⟩ = some (.int .u8 s.a) ∧ w.cell? ⟨g, o + j * 7 + 1, none⟩ = some s.lv ∧ w.cell? ⟨g, o + j * 7 + 2, none⟩ = some (.int .u8 s.da) ∧ w.cell? ⟨g, o + j * 7 + 3, none⟩ = some (.int .i64 s.F) ∧ w.cell? ⟨g, o + j * 7 + 4, none⟩ = some (.int .i64 s.N) ∧
    w.cell? ⟨g, o + j * 7 + 5, none⟩ = some s.bv ∧ w.cell? ⟨g, o + j * 7 + 6, none⟩ = some (.slice s.pp s.pl s.pc)
def StepsIn (w : World) (p : Option Addr) (L : List StepV) : Prop := ∀ j (h : j < L.length), ∃ g o, p = some ⟨g, o, none⟩ ∧ StepCells w g o j L[j] ∧ StepV.ok w L[j]
theorem StepCells.keep {w W : World} {g o j : Nat} {s : StepV} (h : StepCells w g o j s) (hb : Below w.heap.size w W) : StepCells W g o j s := by
  obtain ⟨h0, h1, h2, h3, h4, h5, h6⟩ := h
  have k : ∀ q v, w.cell? ⟨g, q, none⟩ = some v → W.cell? ⟨g, q, none⟩ = some v := fun q v e => by rw [hb.cell (block_lt_of_cell e)]; exact e
  exact ⟨k _ _ h0, k _ _ h1, k _ _ h2, k _ _ h3, k _ _ h4, k _ _ h5, k _ _ h6⟩

theorem bytesV : Tryz.prog.bytesOf 45 = 104 := by kernel_rfl
theorem bytesI : Tryz.prog.bytesOf 3 = 8 := by kernel_rfl
theorem rdb_len {w : World} {v : Value} {xs ys : List Int} (h : RdB w v xs) (k : RdB w v ys) : xs.length = ys.length := by
  obtain ⟨p, c, h1, -⟩ := h.shape
  obtain ⟨q, d, k1, -⟩ := k.shape
  rw [h1] at k1
  injection k1
set_option maxRecDepth 100000 in
set_option maxHeartbeats 1000000 in
theorem open_steps {H : Type} {enc : TypeId × Value → H} {w : World} {base b2 : Nat} {spare : Nat → Bool} {held : Bool} {r} {v : Value} {d : DataW H} {ps : List MemPlace}
    (ho : Value.okWide Tryz.prog w r b2 23 v) (h : DataW.Trod enc Tryz.prog w base spare held 23 v d ps) (hw : ∀ n ∈ d.weights Tryz.prog 23, n ≤ reachBytes) :
    ∃ L : List StepV, (∃ p cap, v = .slice p L.length cap ∧ StepsIn w p L) ∧ L.length ≤ 10000000000000 := by
  have hr := reach_lt
  obtain ⟨p, len0, cap0, rfl⟩ := okWide_slice Tryz.underlying23 ho
  obtain ⟨fuel, hf⟩ := h
  have hf' : DataW.trod enc Tryz.prog w base spare held fuel 23 [.slice p len0 cap0] = some (d, ps) := hf
  rcases Deep.open_slice Tryz.underlying23 hf' with ⟨hcs, -⟩ | ⟨a, len, cap, m, n, D, Pl, hcs, hb, hlc, hm, hmm, hx, hel⟩
  · injection hcs with h1
    injection h1 with h2 h3 h4
    subst h2 h3 h4
    exact ⟨[], ⟨none, 0, rfl, fun j hj => by simp at hj⟩, by simp⟩
  · injection hcs with h1
    injection h1 with h2 h3 h4
    subst h2 h3 h4
    have hlm : len0 ≤ m := by rw [hmm]; split <;> omega
    have hc7 : Tryz.prog.cellsOf 45 = 7 := by kernel_rfl
    have hx1 := congrArg Prod.fst hx
    simp only at hx1
    rw [hx1] at hw
    simp only [DataW.weights, Tryz.underlying23, bytesV] at hw
    have hlen := hw ((((List.range len0).map D).length + ((List.range (m - len0)).map fun j => D (len0 + j)).length) * 104) (by simp)
    have key : ∀ i, i < len0 → ∃ s : StepV, w.cell? (a.add (i * 7)) = some (.int .u8 s.a) ∧ w.cell? ((a.add (i * 7)).add 1) = some s.lv ∧ w.cell? ((a.add (i * 7)).add 2) = some (.int .u8 s.da) ∧ w.cell? ((a.add (i * 7)).add 3) = some (.int .i64 s.F) ∧ w.cell? ((a.add (i * 7)).add 4) = some (.int .i64 s.N) ∧
        w.cell? ((a.add (i * 7)).add 5) = some s.bv ∧ w.cell? ((a.add (i * 7)).add 6) = some (.slice s.pp s.pl s.pc) ∧ StepV.ok w s := by
      intro i hi
      obtain ⟨cs', h5, h6⟩ := hel i (by omega)
      rw [hc7] at h5
      obtain ⟨-, hl7, hc⟩ := World.cells?_some h5
      obtain ⟨xs, n', -, hd, -, hxl, hfl⟩ := DataW.trod_struct Tryz.underlying45 h6
      have hwi : ∀ k ∈ (D i).weights Tryz.prog 45, k ≤ reachBytes := fun k hk => hw k (List.mem_cons_of_mem _ (List.mem_append_left _ (weights_mem_all (d := D i) (List.mem_map.2 ⟨i, by simpa using hi, rfl⟩) hk)))
      match cs', hl7 with
      | [v0, v1, v2, v3, v4, v5, v6], _ =>
        match xs, hxl with
        | [x0, x1, x2], _ =>
          have q0 := hfl 0 _ rfl
          have q1 := hfl 1 _ rfl
          have q2 := hfl 2 _ rfl
          simp only [List.getElem?_cons_zero, List.getElem?_cons_succ] at q0 q1 q2
          have q2' : DataW.trod enc Tryz.prog w base spare held n' 43 [v2, v3, v4, v5, v6] = some x2 := q2
          obtain ⟨ys, n2, -, hd2, -, hyl, hfl2⟩ := DataW.trod_struct Tryz.underlying43 q2'
          match ys, hyl with
          | [y0, y1, y2, y3, y4], _ =>
            have p0 := hfl2 0 _ rfl
            have p1 := hfl2 1 _ rfl
            have p2 := hfl2 2 _ rfl
            have p3 := hfl2 3 _ rfl
            have p4 := hfl2 4 _ rfl
            simp only [List.getElem?_cons_zero, List.getElem?_cons_succ] at p0 p1 p2 p3 p4
            obtain ⟨z0, e0, -, w0⟩ := DataW.trod_int Tryz.underlying5 q0
            obtain ⟨u0, f0, -, t0⟩ := DataW.trod_int Tryz.underlying5 p0
            obtain ⟨u1, f1, -, t1⟩ := DataW.trod_int Tryz.underlying3 p1
            obtain ⟨u2, f2, -, t2⟩ := DataW.trod_int Tryz.underlying3 p2
            obtain ⟨vb, B, f3, hB, hBb, hB2⟩ := open_bytes_at p3
            obtain ⟨pp, pl, pc, pk, f4, hP, hP2⟩ := open_picks_at p4
            simp only [Prod.mk.injEq, List.map_cons, List.map_nil] at hd
            have hd2' := congrArg Prod.fst hd2
            simp only [List.map_cons, List.map_nil] at hd2'
            rw [hd.1, hd2'] at hwi
            simp only [DataW.weights, Tryz.underlying45, Tryz.underlying43, DataW.weightsEach, List.map_cons, List.map_nil, List.mem_append] at hwi
            obtain ⟨vl, Ls, e1, hL, hLb, hLl, hLr⟩ := open_rows_at q1 fun k hk => hwi k (by simp [hk])
            injection e0 with e0; injection e1 with e1; injection f0 with f0; injection f1 with f1; injection f2 with f2; injection f3 with f3; injection f4 with f4
            subst e0 e1 f0 f1 f2 f3 f4
            have b0 := bounds_u8 w0
            have b2 := bounds_i64 t2
            have hBl : B.length ≤ 1000000000000000 := by
              rcases hB2 with hn | ⟨es, sp, he, hel⟩
              · rcases open_ints Tryz.underlying40 Tryz.underlying5 (by kernel_rfl) p3 with ⟨h9, -⟩ | ⟨_, _, _, _, -, -, -, -, -, h10, -⟩
                · injection h9 with h9
                  have := rdb_len hB (show RdB w v5 [] from .inl ⟨h9, rfl⟩)
                  rw [this]; simp
                · have := congrArg Prod.fst h10
                  simp only at this
                  rw [hn] at this
                  cases this
              · have := hwi ((es.length + sp.length) * 1) (by
                  rw [he]
                  simp [DataW.weights, Tryz.underlying40, bytesU])
                omega
            have hPl : pl ≤ 1000000000000000 := by
              rcases hP2 with ⟨-, hn⟩ | ⟨es, sp, he, hel⟩
              · omega
              · have := hwi ((es.length + sp.length) * 8) (by
                  rw [he]
                  simp [DataW.weights, Tryz.underlying41, bytesI])
                omega
            refine ⟨⟨z0, v1, Ls, u0, u1, u2, v5, B, pp, pl, pc, pk⟩, ?_, ?_, ?_, ?_, ?_, ?_, ?_, ⟨b0.1, by have := b0.2; omega, hL, hLb, hLl, hLr, b2.1, b2.2, hB, hBl, hP, hPl, hBb, (bounds_u8 t0).1, by have := (bounds_u8 t0).2; omega⟩⟩
            · have := hc 0 (by omega); simpa [Addr.add] using this
            · have := hc 1 (by omega); simpa using this
            · have := hc 2 (by omega); simpa using this
            · have := hc 3 (by omega); simpa using this
            · have := hc 4 (by omega); simpa using this
            · have := hc 5 (by omega); simpa using this
            · have := hc 6 (by omega); simpa using this
    obtain ⟨Ss, hS⟩ := Deep.choose_lt key
    have hLl : ((List.range len0).map Ss).length = len0 := by simp
    refine ⟨(List.range len0).map Ss, ⟨some a, cap0, by rw [hLl], fun j hj => ?_⟩, by rw [hLl]; simp at hlen; omega⟩
    have hj' : j < len0 := by rw [hLl] at hj; exact hj
    obtain ⟨h0, h1, h2, h3, h4, h5, h6, h7⟩ := hS j hj'
    have hap : a = ⟨a.block, a.off, none⟩ := by
      have h00 := (hS 0 (by omega)).1
      rw [Nat.zero_mul] at h00
      exact addr_plain h00
    have hget : ((List.range len0).map Ss)[j] = Ss j := by simp
    rw [hap] at h0 h1 h2 h3 h4 h5 h6
    simp only [Addr.add_lit] at h0 h1 h2 h3 h4 h5 h6
    exact ⟨a.block, a.off, congrArg some hap, by rw [hget]; exact ⟨h0, h1, h2, h3, h4, h5, h6⟩, by rw [hget]; exact h7⟩
end Go.Proofs.YtfohemgfiidokaaGreatDoor
namespace Go.Proofs.YtfohemgfiidokaaGreatDoor
open Go.RowKit Go.Sort

def rowsT : List (List Int) → Nat
  | [] => 0
  | r :: t => 16 + r.length + rowsT t
def stepT (s : StepV) : Nat := 32 + s.B.length + s.pl + rowsT s.L
def totV : List StepV → Nat
  | [] => 0
  | s :: t => stepT s + totV t
theorem rowsT_app : ∀ l m : List (List Int), rowsT (l ++ m) = rowsT l + rowsT m
  | [], m => by simp [rowsT]
  | a :: t, m => by rw [List.cons_append, rowsT, rowsT, rowsT_app t]; omega
theorem totV_app : ∀ l m : List StepV, totV (l ++ m) = totV l + totV m
  | [], m => by simp [totV]
  | a :: t, m => by rw [List.cons_append, totV, totV, totV_app t]; omega
theorem rowsT_next (ls : List (List Int)) (q : Nat) (h : q < ls.length) : rowsT (ls.take (q + 1)) = rowsT (ls.take q) + (16 + (ls[q]?.getD []).length) := by
  rw [show ls.take (q + 1) = ls.take q ++ [ls[q]?.getD []] by rw [List.take_succ_eq_append_getElem h, List.getElem?_eq_getElem h]; rfl, rowsT_app]
  rfl
theorem totV_next (L : List StepV) (q : Nat) (h : q < L.length) : totV (L.take (q + 1)) = totV (L.take q) + stepT L[q] := by
  rw [List.take_succ_eq_append_getElem h, totV_app]
  rfl
theorem totV_take (L : List StepV) (q : Nat) : totV (L.take q) ≤ totV L := by
  have := totV_app (L.take q) (L.drop q)
  rw [List.take_append_drop] at this
  omega
set_option maxRecDepth 100000 in
set_option maxHeartbeats 1600000 in
theorem heavy_c (p : Option Addr) (cap : Nat) (L : List StepV) (w : World) (hs : StepsIn w p L) (hl : L.length ≤ 10000000000000) :
    Calls Tryz.prog 4 #[.slice p L.length cap] w fun e w' => ∃ b, e = .returned (.bool b) ∧ (b = false → totV L ≤ 16384) ∧ RowKit.Below w.heap.size w w' := by
  have HS := Lib.hid hs
  clear hs
  go_enter Tryz.func4, Tryz.ntmps4
  go_upto_region 3 with fail
  go_loopw [3, 4, 5] (fun nv iv kv wr => ∃ k n : Nat, k ≤ L.length ∧ iv = .int .i64 k ∧ nv = .int .i64 n ∧ n ≤ 3000000000000000 ∧ (n ≤ 16384 → totV (L.take k) ≤ n) ∧ RowKit.Below w.heap.size w wr) (fun _ i _ _ => L.length - (intOf i).toNat)
  case atStart => exact ⟨0, 0, by omega, rfl, rfl, by omega, fun _ => Nat.le_refl _, RowKit.Below.refl _ _⟩
  case round =>
    obtain ⟨k, n, hk, rfl, rfl, hn, hv, hb⟩ := hrel
    have HV := Lib.hid hv
    have HB := Lib.hid hb
    clear hv hb
    by_cases hbig : 16384 < n
    · have hd1 : decide ((16384 : Int) < (n : Int)) = true := decide_eq_true (by omega)
      have hd2 : decide ((n : Int) ≤ 16384) = false := decide_eq_false (by omega)
      clear hbig
      by_cases hlt : k < L.length
      · go_wp2
        go_ret
        exact ⟨true, rfl, (fun h => by cases h), HB.out⟩
      · obtain rfl : k = L.length := by omega
        go_wp2
        go_ret
        exact ⟨true, rfl, (fun h => by cases h), HB.out⟩
    · have hd1 : decide ((16384 : Int) < (n : Int)) = false := decide_eq_false (by omega)
      have hd2 : decide ((n : Int) ≤ 16384) = true := decide_eq_true (by omega)
      by_cases hlt : k < L.length
      · have hnx := totV_next L k hlt
        obtain ⟨g, o, rfl, hc, hok⟩ := HS.out k hlt
        have hst : stepT L[k] = 32 + L[k].B.length + L[k].pl + rowsT L[k].L := rfl
        have hvk := HV.out (by omega)
        generalize hs0 : L[k] = s at *
        obtain ⟨a, lv, Ls, da, F, N, bv, B, pp, pl, pc, pk⟩ := s
        have hlv : RdL w lv Ls := hok.l
        have hbv : RdB w bv B := hok.b
        obtain ⟨pb, cb, rfl, -⟩ := hbv.shape
        obtain ⟨pr, cr, rfl, hcr, -⟩ := hlv.shape
        have HC := Lib.hid (fun W (h : RowKit.Below w.heap.size w W) => hc.keep h)
        have HL := Lib.hid (fun W (h : RowKit.Below w.heap.size w W) => (hlv.keep h).shape)
        have hbl : B.length ≤ 1000000000000000 := hok.bl
        have hpz : pl ≤ 1000000000000000 := hok.pz
        have hll : Ls.length ≤ 10000000000000 := hok.ll
        have HR := Lib.hid (show ∀ r ∈ Ls, r.length ≤ 1000000000000000 from hok.lr)
        simp only at hst
        have HN := Lib.hid hnx
        have HT := Lib.hid hst
        clear hc hok hlv hbv hs0 hnx hst
        obtain ⟨c0, c1, c2, c3, c4, c5, c6⟩ := HC.out wr HB.out
        simp only at c1 c5 c6
        clear c0 c2 c3 c4
        have g0 : IntKind.i64.wrap ((n : Int) + 32) = (n : Int) + 32 := by rw [IntKind.wrap_i64]; omega
        have g1 : IntKind.i64.wrap ((n : Int) + 32 + (B.length : Int)) = (n : Int) + 32 + (B.length : Int) := by rw [IntKind.wrap_i64]; omega
        have g2 : IntKind.i64.wrap ((n : Int) + 32 + (B.length : Int) + (pl : Int)) = (n : Int) + 32 + (B.length : Int) + (pl : Int) := by rw [IntKind.wrap_i64]; omega
        go_wp2_with fail
        go_quiet (fail)
        clear g0 g1 g2
        go_upto_region 7 with fail
        have HB2 := Lib.hid (bel_call HB.out (below_drewN wr nq))
        clear c1 c5 c6
        have hn3 : n + 32 + B.length + pl ≤ 3000000000000000 := by omega
        go_loopw [3, 5] (fun nv jv W => ∃ j n2 : Nat, j ≤ Ls.length ∧ jv = .int .i64 j ∧ nv = .int .i64 n2 ∧ n2 ≤ 3000000000000000 ∧ (n2 ≤ 16384 → totV (L.take k) + (32 + B.length + pl) + rowsT (Ls.take j) ≤ n2) ∧ RowKit.Below w.heap.size w W) (fun _ j _ => Ls.length - (intOf j).toNat)
        case atStart => exact ⟨0, n + 32 + B.length + pl, by omega, rfl, by go_num, hn3, fun _ => by show totV (L.take k) + (32 + B.length + pl) + 0 ≤ _; omega, HB2.out⟩
        case round =>
          clear HB2
          obtain ⟨j, n2, hj, rfl, rfl, hn2, hv2, hb2⟩ := hrel
          have HV2 := Lib.hid hv2
          have HB2 := Lib.hid hb2
          obtain ⟨c0, c1, c2, c3, c4, c5, c6⟩ := HC.out _ hb2
          simp only at c1
          clear c0 c2 c3 c4 c5 c6 hv2 hb2
          by_cases hbig2 : 16384 < n2
          · have hd3 : decide ((n2 : Int) ≤ 16384) = false := decide_eq_false (by omega)
            have hrel : ∃ k2 n3 : Nat, k2 ≤ L.length ∧ Value.int .i64 ((k : Int) + 1) = .int .i64 k2 ∧ Value.int .i64 (n2 : Int) = .int .i64 n3 ∧ n3 ≤ 3000000000000000 ∧ (n3 ≤ 16384 → totV (L.take k2) ≤ n3) := ⟨k + 1, n2, by omega, by go_num, rfl, hn2, fun h => by omega⟩
            have HRel := Lib.hid hrel
            clear hbig2 hrel
            by_cases hlt2 : j < Ls.length
            · go_wp2
              obtain ⟨k2, n3, e1, e2, e3, e4, e5⟩ := HRel.out
              exact ⟨⟨k2, n3, e1, e2, e3, e4, e5, HB2.out⟩, by simp [intOf]; omega⟩
            · obtain rfl : j = Ls.length := by omega
              go_wp2
              obtain ⟨k2, n3, e1, e2, e3, e4, e5⟩ := HRel.out
              exact ⟨⟨k2, n3, e1, e2, e3, e4, e5, HB2.out⟩, by simp [intOf]; omega⟩
          · have hd3 : decide ((n2 : Int) ≤ 16384) = true := decide_eq_true (by omega)
            by_cases hlt2 : j < Ls.length
            · obtain ⟨a2, cp2, e2, -, hel⟩ := HL.out _ HB2.out
              injection e2 with e2 e3 e4
              subst e2 e4
              obtain ⟨g2, o2, u, rfl, hcell, hrd⟩ := hel j hlt2
              obtain ⟨a', c', rfl, hc'⟩ := hrd.shape
              have hnx2 := rowsT_next Ls j hlt2
              have hrl : (Ls[j]?.getD []).length ≤ 1000000000000000 := HR.out _ (by rw [List.getElem?_eq_getElem hlt2]; exact List.getElem_mem _)
              have hw1 : IntKind.i64.wrap ((n2 : Int) + 16) = (n2 : Int) + 16 := by rw [IntKind.wrap_i64]; omega
              have hw2 : IntKind.i64.wrap ((n2 : Int) + 16 + ((Ls[j]?.getD []).length : Int)) = (n2 : Int) + 16 + ((Ls[j]?.getD []).length : Int) := by rw [IntKind.wrap_i64]; omega
              have hv3 := HV2.out (by omega)
              have hrel : ∃ j2 n3 : Nat, j2 ≤ Ls.length ∧ Value.int .i64 ((j : Int) + 1) = .int .i64 j2 ∧ Value.int .i64 ((n2 : Int) + 16 + ((Ls[j]?.getD []).length : Int)) = .int .i64 n3 ∧ n3 ≤ 3000000000000000 ∧ (n3 ≤ 16384 → totV (L.take k) + (32 + B.length + pl) + rowsT (Ls.take j2) ≤ n3) := ⟨j + 1, n2 + 16 + (Ls[j]?.getD []).length, by omega, by go_num, by go_num, by omega, fun h => by omega⟩
              have HRel := Lib.hid hrel
              clear hrel hnx2 hv3
              generalize Ls[j]?.getD [] = r at *
              go_wp2
              obtain ⟨k2, n3, e1, e2, e3, e4, e5⟩ := HRel.out
              exact ⟨⟨k2, n3, e1, e2, e3, e4, e5, HB2.out⟩, by simp [intOf]; omega⟩
            · obtain rfl : j = Ls.length := by omega
              have hv3 := HV2.out (by omega)
              rw [List.take_length] at hv3
              have hnx3 := HN.out
              have hst3 := HT.out
              have hrel : ∃ k2 n3 : Nat, k2 ≤ L.length ∧ Value.int .i64 ((k : Int) + 1) = .int .i64 k2 ∧ Value.int .i64 (n2 : Int) = .int .i64 n3 ∧ n3 ≤ 3000000000000000 ∧ (n3 ≤ 16384 → totV (L.take k2) ≤ n3) := ⟨k + 1, n2, by omega, by go_num, rfl, hn2, fun h => by omega⟩
              have HRel := Lib.hid hrel
              clear hrel hnx3 hst3 hv3
              go_wp2
              obtain ⟨k2, n3, e1, e2, e3, e4, e5⟩ := HRel.out
              exact ⟨⟨k2, n3, e1, e2, e3, e4, e5, HB2.out⟩, by simp [intOf]; omega⟩
      · obtain rfl : k = L.length := by omega
        have hvk := HV.out (by omega)
        rw [List.take_length] at hvk
        go_wp2
        go_ret
        exact ⟨false, rfl, fun _ => by omega, HB.out⟩
end Go.Proofs.YtfohemgfiidokaaGreatDoor
