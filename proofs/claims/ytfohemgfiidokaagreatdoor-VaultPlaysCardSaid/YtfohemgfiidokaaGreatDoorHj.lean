/- The law's do. -/
import Derived.Test.YtfohemgfiidokaaGreatDoorHy
namespace Go.Proofs.YtfohemgfiidokaaGreatDoor
open Go.RowKit Go.Sort

def StepV.cellsV (s : StepV) : Array Value := #[.int .u8 s.a, s.lv, .int .u8 s.da, .int .i64 s.F, .int .i64 s.N, s.bv, .slice s.pp s.pl s.pc]
def StepV.disk (s : StepV) : StepD := ⟨s.da, s.F, s.N, s.B, s.bv, s.pp, s.pl, s.pc, s.pk⟩
theorem StepV.ok.disk {w : World} {s : StepV} (h : StepV.ok w s) : StepD.ok w s.disk := ⟨h.d0, h.d1, h.n1, h.b, h.bl, h.p, h.bb⟩
/-- the law's state behind the step has been laid into block X -/
structure DoIn (w0 w : World) (D R P : Nat) (d : Dk) (o : Option (Nat × Nat × Va)) (k m : Nat) (ρ : Nat → Nat) (X : Nat) (s : StepV) (W : World) : Prop where
  pr : PR w0 D R P d o k m ρ W
  bel : Below w.heap.size w W
  x : X < W.heap.size
  rx : ρ X = 0
  c0 : W.cell? ⟨X, 0, none⟩ = some (.int .u8 s.a)
  c1 : W.cell? ⟨X, 1, none⟩ = some s.lv
  c2 : W.cell? ⟨X, 2, none⟩ = some (.int .u8 s.da)
  c3 : W.cell? ⟨X, 3, none⟩ = some (.int .i64 s.F)
  c4 : W.cell? ⟨X, 4, none⟩ = some (.int .i64 s.N)
  c5 : W.cell? ⟨X, 5, none⟩ = some s.bv
  c6 : W.cell? ⟨X, 6, none⟩ = some (.slice s.pp s.pl s.pc)
theorem doIn {w0 w : World} {D R P : Nat} {d : Dk} {o : Option (Nat × Nat × Va)} {k m : Nat} {ρ : Nat → Nat} (h : PR w0 D R P d o k m ρ w) (s : StepV) : DoIn w0 w D R P d o k m ρ w.heap.size s (w.alloc (.cells s.cellsV 45)) := by
  have hb := bel_alloc (Below.refl w.heap.size w) (.cells s.cellsV 45)
  have hn := heap_alloc_new w (.cells s.cellsV 45)
  obtain ⟨r, -, h2, -⟩ := id h
  exact ⟨h.keep hb, hb, by simp, h2.ref.fresh _ (Nat.le_refl _), cell_of_row _ _ 0 _ _ _ hn, cell_of_row _ _ 1 _ _ _ hn, cell_of_row _ _ 2 _ _ _ hn, cell_of_row _ _ 3 _ _ _ hn, cell_of_row _ _ 4 _ _ _ hn, cell_of_row _ _ 5 _ _ _ hn, cell_of_row _ _ 6 _ _ _ hn⟩
set_option maxRecDepth 100000 in
set_option maxHeartbeats 4000000 in
theorem pdo_open {w0 w : World} {D R P : Nat} {d : Dk} {o : Option (Nat × Nat × Va)} {k m : Nat} {ρ : Nat → Nat} (h : PR w0 D R P d o k m ρ w) (hk : k ≤ 80000) (hm : m ≤ 80000) (ht : KTab w0) (s : StepV) (hs : StepV.ok w0 s) (hB : s.B.length ≤ 20000) (hL : sizeI s.L ≤ 90000) (hLl : s.L.length ≤ 250000) (h4 : s.a % 6 = 4) :
    Calls Tryz.prog 10 #[.pointer (some ⟨P, 0, none⟩), .agg s.cellsV] w fun e w' => e = .returned (.bool true) ∧ ∃ d' o', PRT w0 D R P d' o' (k + 3) (m + (44 + sizeI s.L) + s.B.length) ρ w w' := by
  have a0 := hs.a0
  have a1 := hs.a1
  have hin := doIn h s
  have hpo := fun W (hp : PR w0 D R P d o k m ρ W) => popen_c hp (by omega) (by omega) ht
  have hdo := fun W ρ1 (r : Rk) (hp : Pair w0 D R d r ρ1 W) (hr : Rel d r k m) => do_c hp hr (by omega) (by omega) s.disk hs.disk (by show s.B.length ≤ _; omega)
  unfold StepV.cellsV at *
  have _ := hLl
  have e4 : (s.a % 6 == 4) = true := beq_iff_eq.2 h4
  have HPO := Lib.hid hpo
  clear h4 hpo hdo h hs ht
  go_enter Tryz.func10, Tryz.ntmps10
  go_upto_region 1 with fail
  refine wp_gen (fun W => DoIn w0 w D R P d o k m ρ w.heap.size s W) hin ?_
  have HRX := Lib.hid (show ∃ X, X = w.heap.size from ⟨_, rfl⟩)
  clear hin
  generalize hXe : w.heap.size = X
  have HXE := Lib.hid hXe
  clear hXe HRX
  rintro W hin
  have c0 := hin.c0
  have HIN := Lib.hid hin
  clear hin
  go_wp2_with (first
    | (go_at_call 8; go_loud ((with_reducible refine (HPO.out _ HIN.out.pr).mono ?_); rintro e w2 ⟨rfl, d', o', hpt⟩))
    | fail)
  go_ret
  exact ⟨rfl, d', o', (PRT.after HIN.out.bel hpt).up (by omega) (by omega)⟩
set_option maxRecDepth 100000 in
set_option maxHeartbeats 4000000 in
theorem pdo_disk {w0 w : World} {D R P : Nat} {d : Dk} {o : Option (Nat × Nat × Va)} {k m : Nat} {ρ : Nat → Nat} (h : PR w0 D R P d o k m ρ w) (hk : k ≤ 80000) (hm : m ≤ 80000) (ht : KTab w0) (s : StepV) (hs : StepV.ok w0 s) (hB : s.B.length ≤ 20000) (hL : sizeI s.L ≤ 90000) (hLl : s.L.length ≤ 250000) (h5 : s.a % 6 = 5) :
    Calls Tryz.prog 10 #[.pointer (some ⟨P, 0, none⟩), .agg s.cellsV] w fun e w' => e = .returned (.bool true) ∧ ∃ d' o', PRT w0 D R P d' o' (k + 3) (m + (44 + sizeI s.L) + s.B.length) ρ w w' := by
  have a0 := hs.a0
  have a1 := hs.a1
  have hin := doIn h s
  have hpo := fun W (hp : PR w0 D R P d o k m ρ W) => popen_c hp (by omega) (by omega) ht
  have hdo := fun W ρ1 (r : Rk) (hp : Pair w0 D R d r ρ1 W) (hr : Rel d r k m) => do_c hp hr (by omega) (by omega) s.disk hs.disk (by show s.B.length ≤ _; omega)
  unfold StepV.cellsV at *
  have _ := hLl
  have e4 : (s.a % 6 == 4) = false := beq_false_of_ne (by omega)
  have e5 : (s.a % 6 == 5) = true := beq_iff_eq.2 h5
  have HDO := Lib.hid hdo
  clear h5 hpo hdo h hs ht
  go_enter Tryz.func10, Tryz.ntmps10
  go_upto_region 1 with fail
  refine wp_gen (fun W => DoIn w0 w D R P d o k m ρ w.heap.size s W) hin ?_
  have HRX := Lib.hid (show ∃ X, X = w.heap.size from ⟨_, rfl⟩)
  clear hin
  generalize hXe : w.heap.size = X
  have HXE := Lib.hid hXe
  clear hXe HRX
  rintro W hin
  have c0 := hin.c0
  have HIN := Lib.hid hin
  clear hin
  go_upto_region 5 with fail
  have hdl := (Below.refl W.heap.size W).drew
  have hpd := HIN.out.pr.keep hdl
  obtain ⟨r, hr, hP, hV, hB', hvb⟩ := hpd
  have HP := Lib.hid hP
  have HV := Lib.hid hV
  have HRL := Lib.hid hr
  have HVB := Lib.hid hvb
  have HBY := Lib.hid hB'
  have x0 := HIN.out.rx
  have hXl := HIN.out.x
  have p0 := hV.p0
  have p1 := hV.p1
  have d2 : W.drew.cell? ⟨X, 2, none⟩ = some (.int .u8 s.da) := HIN.out.c2
  have d3 : W.drew.cell? ⟨X, 3, none⟩ = some (.int .i64 s.F) := HIN.out.c3
  have d4 : W.drew.cell? ⟨X, 4, none⟩ = some (.int .i64 s.N) := HIN.out.c4
  have d5 : W.drew.cell? ⟨X, 5, none⟩ = some s.bv := HIN.out.c5
  have d6 : W.drew.cell? ⟨X, 6, none⟩ = some (.slice s.pp s.pl s.pc) := HIN.out.c6
  have kd := HDO.out _ _ _ hP hr
  unfold StepD.val StepV.disk at kd
  simp only at kd
  have KD := Lib.hid kd
  clear hr hP hV hB' hvb kd
  go_region_held3 (fun w' => w'.cell? ⟨P, 0, none⟩ = some (.pointer (some ⟨D, 0, none⟩)) ∧ w'.cell? ⟨P, 1, none⟩ = some (.pointer (some ⟨R, 0, none⟩)) ∧ w'.cell? ⟨X, 2, none⟩ = some (.int .u8 s.da) ∧ w'.cell? ⟨X, 3, none⟩ = some (.int .i64 s.F) ∧ w'.cell? ⟨X, 4, none⟩ = some (.int .i64 s.N) ∧ w'.cell? ⟨X, 5, none⟩ = some s.bv ∧ w'.cell? ⟨X, 6, none⟩ = some (.slice s.pp s.pl s.pc)) (first | exact ⟨p0, p1, d2, d3, d4, d5, d6⟩ | exact ⟨q0, q1, f2, f3, f4, f5, f6⟩ | fail) (first
    | (go_at_call 26; (with_reducible refine KD.out.mono ?_); rintro e w2 ⟨rfl, d1, r1, hdb, hr1, ha⟩; have ha0 := ha; obtain ⟨ρ2, hp2, hs2, hz2⟩ := ha; have kx := (hz2 X hXl (.inl x0)).2; have kp := (hz2 P HV.out.lt (.inr HV.out.rp)).2; have q0 := (World.cell?_of_block (a := ⟨P, 0, none⟩) kp).trans p0; have q1 := (World.cell?_of_block (a := ⟨P, 1, none⟩) kp).trans p1; have f2 := (World.cell?_of_block (a := ⟨X, 2, none⟩) kx).trans d2; have f3 := (World.cell?_of_block (a := ⟨X, 3, none⟩) kx).trans d3; have f4 := (World.cell?_of_block (a := ⟨X, 4, none⟩) kx).trans d4; have f5 := (World.cell?_of_block (a := ⟨X, 5, none⟩) kx).trans d5; have f6 := (World.cell?_of_block (a := ⟨X, 6, none⟩) kx).trans d6)
    | fail)
  all_goals go_wp2
  all_goals go_ret
  all_goals exact ⟨rfl, d1, o, (PRT.after (bel_call HIN.out.bel hdl) (disk_both ⟨r, HRL.out, HP.out, HV.out, HBY.out, HVB.out⟩ hr1 ha0 hdb (by omega))).up (by omega) (by omega)⟩
set_option maxRecDepth 100000 in
set_option maxHeartbeats 4000000 in
theorem pdo_nil {w0 w : World} {D R P : Nat} {d : Dk} {o : Option (Nat × Nat × Va)} {k m : Nat} {ρ : Nat → Nat} (h : PR w0 D R P d o k m ρ w) (hk : k ≤ 80000) (hm : m ≤ 80000) (ht : KTab w0) (s : StepV) (hs : StepV.ok w0 s) (hB : s.B.length ≤ 20000) (hL : sizeI s.L ≤ 90000) (hLl : s.L.length ≤ 250000) (h4 : s.a % 6 ≠ 4) (h5 : s.a % 6 ≠ 5) (ho : o = none) :
    Calls Tryz.prog 10 #[.pointer (some ⟨P, 0, none⟩), .agg s.cellsV] w fun e w' => e = .returned (.bool true) ∧ ∃ d' o', PRT w0 D R P d' o' (k + 3) (m + (44 + sizeI s.L) + s.B.length) ρ w w' := by
  subst ho
  have _ := hLl
  have a0 := hs.a0
  have a1 := hs.a1
  have hin := doIn h s
  have hpo := fun W (hp : PR w0 D R P d none k m ρ W) => popen_c hp (by omega) (by omega) ht
  have hdo := fun W ρ1 (r : Rk) (hp : Pair w0 D R d r ρ1 W) (hr : Rel d r k m) => do_c hp hr (by omega) (by omega) s.disk hs.disk (by show s.B.length ≤ _; omega)
  unfold StepV.cellsV at *
  have e4 : (s.a % 6 == 4) = false := beq_false_of_ne h4
  have e5 : (s.a % 6 == 5) = false := beq_false_of_ne h5
  obtain ⟨lp, lc, hlv, -⟩ := hs.l.shape
  have HLV := Lib.hid hlv
  clear h4 h5 hpo hdo hs ht h hlv
  go_enter Tryz.func10, Tryz.ntmps10
  go_upto_region 1 with fail
  refine wp_gen (fun W => DoIn w0 w D R P d none k m ρ w.heap.size s W) hin ?_
  have HRX := Lib.hid (show ∃ X, X = w.heap.size from ⟨_, rfl⟩)
  clear hin
  generalize hXe : w.heap.size = X
  have HXE := Lib.hid hXe
  clear hXe HRX
  rintro W hin
  have c0 := hin.c0
  have HIN := Lib.hid hin
  clear hin
  have t3 : W.cell? ⟨P, 3, none⟩ = some (.pointer none) := by
    obtain ⟨r, -, -, hV, -⟩ := HIN.out.pr
    exact hV.p3
  go_upto_region 7 with fail
  have hdl := (Below.refl W.heap.size W).drew
  have hpd := HIN.out.pr.keep hdl
  obtain ⟨r, hr, hP, hV, hB', hvb⟩ := hpd
  have HP := Lib.hid hP
  have HV := Lib.hid hV
  have HRL := Lib.hid hr
  have HVB := Lib.hid hvb
  have HBY := Lib.hid hB'
  have x0 := HIN.out.rx
  have hXl := HIN.out.x
  have p2 : W.drew.cell? ⟨P, 2, none⟩ = some (.pointer none) := hV.p2
  have x1 : W.drew.cell? ⟨X, 1, none⟩ = some (.slice lp s.L.length lc) := by rw [← HLV.out]; exact HIN.out.c1
  have hPl : P < W.drew.heap.size := hV.lt
  clear hr hP hV hB' hvb
  go_region_held3 (fun w' => w'.cell? ⟨P, 2, none⟩ = some (.pointer none) ∧ w'.cell? ⟨X, 1, none⟩ = some (.slice lp s.L.length lc)) (first | exact ⟨p2, x1⟩ | exact ⟨q2, f1⟩ | exact ⟨t2, g1⟩ | fail) (first
    | (go_at_call 14; (with_reducible refine (add_nil _ _ _ _).mono ?_); rintro e w2 ⟨rfl, b2⟩; have q2 := (World.cell?_of_block (a := ⟨P, 2, none⟩) (b2.block P hPl)).trans p2; have f1 := (World.cell?_of_block (a := ⟨X, 1, none⟩) (b2.block X hXl)).trans x1)
    | (go_at_call 20; (with_reducible refine (compact_nil _ _ _ _).mono ?_); rintro e w3 ⟨rfl, b3⟩; have b3 := bel_call b2 b3; have t2 := (World.cell?_of_block (a := ⟨P, 2, none⟩) (b3.block P hPl)).trans p2; have g1 := (World.cell?_of_block (a := ⟨X, 1, none⟩) (b3.block X hXl)).trans x1)
    | fail)
  all_goals go_wp2
  all_goals go_ret
  all_goals exact ⟨rfl, d, none, (PRT.after (bel_call HIN.out.bel hdl) (PRT.ofBelow ⟨r, HRL.out, HP.out, HV.out, HBY.out, HVB.out⟩ b3)).up (by omega) (by omega)⟩
theorem comp_vb {d : Dk} {V Y : Nat} {x : Va} {m : Nat} {ls : List (List Int)} (u1 : x.file < 2) (u2 : 0 ≤ x.gen) (u3 : 0 ≤ x.n) (u4 : x.n ≤ m) : VB (some (V, Y, (d.compV x ls).2.2)) (m + (44 + sizeI ls)) := fun V' Y' y e => by
  injection e with e
  injection e with e1 e2
  injection e2 with e2 e3
  subst e3
  have hl := len_le_size ls
  have same : x.file < 2 ∧ 0 ≤ x.gen ∧ 0 ≤ x.n ∧ x.n ≤ ((m + (44 + sizeI ls) : Nat) : Int) := ⟨u1, u2, u3, by omega⟩
  unfold Dk.compV
  split
  · exact same
  · split
    · exact same
    · split
      · exact same
      · split
        · exact same
        · split
          · exact ⟨by show 1 - x.file < 2; omega, by show 0 ≤ x.gen + 1; omega, Int.natCast_nonneg _, by show ((ls.length : Nat) : Int) ≤ _; omega⟩
          · exact same
theorem add_vb {d : Dk} {V Y : Nat} {x : Va} {m : Nat} {ls : List (List Int)} (u1 : x.file < 2) (u2 : 0 ≤ x.gen) (u3 : 0 ≤ x.n) (u4 : x.n ≤ m) : VB (some (V, Y, (d.addV x ls).2.2)) (m + (44 + sizeI ls)) := fun V' Y' y e => by
  injection e with e
  injection e with e1 e2
  injection e2 with e2 e3
  subst e3
  have hl := len_le_size ls
  have same : x.file < 2 ∧ 0 ≤ x.gen ∧ 0 ≤ x.n ∧ x.n ≤ ((m + (44 + sizeI ls) : Nat) : Int) := ⟨u1, u2, u3, by omega⟩
  unfold Dk.addV
  split
  · exact same
  · split
    · exact same
    · split
      · exact same
      · split
        · exact ⟨u1, u2, by show 0 ≤ x.n + ls.length; omega, by show x.n + (ls.length : Int) ≤ _; omega⟩
        · exact same
set_option maxRecDepth 100000 in
set_option maxHeartbeats 4000000 in
theorem pdo_comp {w0 w : World} {D R P : Nat} {d : Dk} {o : Option (Nat × Nat × Va)} {k m : Nat} {ρ : Nat → Nat} (h : PR w0 D R P d o k m ρ w) (hk : k ≤ 80000) (hm : m ≤ 80000) (ht : KTab w0) (s : StepV) (hs : StepV.ok w0 s) (hB : s.B.length ≤ 20000) (hL : sizeI s.L ≤ 90000) (hLl : s.L.length ≤ 250000) (h4 : s.a % 6 = 3) (V Y : Nat) (x : Va) (ho : o = some (V, Y, x)) :
    Calls Tryz.prog 10 #[.pointer (some ⟨P, 0, none⟩), .agg s.cellsV] w fun e w' => e = .returned (.bool true) ∧ ∃ d' o', PRT w0 D R P d' o' (k + 3) (m + (44 + sizeI s.L) + s.B.length) ρ w w' := by
  subst ho
  have a0 := hs.a0
  have a1 := hs.a1
  have hin := doIn h s
  have hpo := fun W (hp : PR w0 D R P d (some (V, Y, x)) k m ρ W) => popen_c hp (by omega) (by omega) ht
  have hdo := fun W ρ1 (r : Rk) (hp : Pair w0 D R d r ρ1 W) (hr : Rel d r k m) => do_c hp hr (by omega) (by omega) s.disk hs.disk (by show s.B.length ≤ _; omega)
  unfold StepV.cellsV at *
  have e4 : (s.a % 6 == 4) = false := beq_false_of_ne (by omega)
  have e5 : (s.a % 6 == 5) = false := beq_false_of_ne (by omega)
  have e3 : (s.a % 6 == 3) = true := beq_iff_eq.2 h4
  clear h4
  have htt := ht
  obtain ⟨lp, lc, hlv, -⟩ := hs.l.shape
  have HLV := Lib.hid hlv
  have HS := Lib.hid hs
  have HT := Lib.hid ht
  clear hpo hdo hs ht htt h hlv
  go_enter Tryz.func10, Tryz.ntmps10
  go_upto_region 1 with fail
  refine wp_gen (fun W => DoIn w0 w D R P d (some (V, Y, x)) k m ρ w.heap.size s W) hin ?_
  have HRX := Lib.hid (show ∃ X, X = w.heap.size from ⟨_, rfl⟩)
  clear hin
  generalize hXe : w.heap.size = X
  have HXE := Lib.hid hXe
  clear hXe HRX
  rintro W hin
  have c0 := hin.c0
  have HIN := Lib.hid hin
  clear hin
  have t3 : W.cell? ⟨P, 3, none⟩ = some (.pointer (some ⟨Y, 0, none⟩)) := by
    obtain ⟨r, -, -, hV, -⟩ := HIN.out.pr
    exact hV.p3
  go_upto_region 9 with fail
  have hdl := (Below.refl W.heap.size W).drew
  have hpd := HIN.out.pr.keep hdl
  obtain ⟨r, hr, hP, hV, hB', hvb⟩ := hpd
  have HP := Lib.hid hP
  have HV := Lib.hid hV
  have HRL := Lib.hid hr
  have HVB := Lib.hid hvb
  have HBY := Lib.hid hB'
  have x0 := HIN.out.rx
  have hXl := HIN.out.x
  have p2 : W.drew.cell? ⟨P, 2, none⟩ = some (.pointer (some ⟨V, 0, none⟩)) := hV.p2
  have p3 : W.drew.cell? ⟨P, 3, none⟩ = some (.pointer (some ⟨Y, 0, none⟩)) := hV.p3
  have x1 : W.drew.cell? ⟨X, 1, none⟩ = some (.slice lp s.L.length lc) := by rw [← HLV.out]; exact HIN.out.c1
  have hPl : P < W.drew.heap.size := hV.lt
  obtain ⟨v1, v2, v3, v4, v5, v6, v7⟩ := hV.v V Y x rfl
  obtain ⟨u1, u2, u3, u4⟩ := hvb V Y x rfl
  have hl0 := HS.out.l
  rw [HLV.out] at hl0
  have hll := fun W2 (hb : Below w0.heap.size w0 W2) => hl0.keep hb
  have kv := comp_all_c ⟨hP.1, v1, v3⟩ hr.dsz (by omega) (by omega) (HT.out.below hP.2.2.2 HT.out.lt) u1 _ s.L (hll _ hP.2.2.2) HS.out.lb (by omega) hLl u2
  have kx := fun w2 (rr : Rk) (ρ2 : Nat → Nat) (hp2 : Pair w0 D R (d.compV x s.L).2.1 r ρ2 w2) (hy : VaAt w2 Y R x) (h4 : ρ2 Y = 4) => rcomp_c hp2.ref hy h4 hr (by omega) (by omega) u1 _ s.L (hll _ hp2.2.2.2) HS.out.lb (by omega) hLl u2
  have hby := hB'.compV x s.L HS.out.lb
  have hvb2 : VB (some (V, Y, (d.compV x s.L).2.2)) (m + (44 + sizeI s.L)) := comp_vb u1 u2 u3 u4
  generalize (d.compV x s.L) = q at *
  obtain ⟨c, d1, x1'⟩ := q
  have KV := Lib.hid kv
  have KX := Lib.hid kx
  have HBY2 := Lib.hid hby
  have HVB2 := Lib.hid hvb2
  have yl := v2
  clear hr hP hB' hvb kv kx hl0 hll hby hvb2
  simp only at KV KX HBY2 HVB2
  go_region_held3 (fun w' => w'.cell? ⟨P, 2, none⟩ = some (.pointer (some ⟨V, 0, none⟩)) ∧ w'.cell? ⟨P, 3, none⟩ = some (.pointer (some ⟨Y, 0, none⟩)) ∧ w'.cell? ⟨X, 1, none⟩ = some (.slice lp s.L.length lc)) (first | exact ⟨p2, p3, x1⟩ | exact ⟨q2, q3, f1⟩ | exact ⟨s2, s3, g1⟩ | fail) (first
    | (go_at_call 20; (with_reducible refine KV.out.mono ?_); rintro e w2 ⟨rfl, hl⟩; obtain ⟨ρ1, P1, k1, k2, k3, k4, k5⟩ := pair_vault HP.out v3 hl; have kp := k5 P hPl (.inr HV.out.rp) v6; have kX := k5 X hXl (.inl x0) (fun e => by subst e; omega); have q2 := (World.cell?_of_block (a := ⟨P, 2, none⟩) kp).trans p2; have q3 := (World.cell?_of_block (a := ⟨P, 3, none⟩) kp).trans p3; have f1 := (World.cell?_of_block (a := ⟨X, 1, none⟩) kX).trans x1)
    | (go_at_call 27; (with_reducible refine (KX.out _ r _ P1 (v2.same (k5 Y v2.lt (.inr v4) v5.symm)) ((k4 Y v2.lt (.inr v4)).trans v4)).mono ?_); rintro e w3 ⟨rfl, hl3⟩; obtain ⟨r3, ρ3, j0, P3, j1, j2, j3, j4, j5⟩ := pair_xault P1 ((k4 Y v2.lt (.inr v4)).trans v4) hl3; have hpt := both_vault HV.out k1 k2 k3 k4 k5 j0 P3 j1 j2 j3 j4 j5 HBY2.out HVB2.out; have kp3 := j5 P (Nat.lt_of_lt_of_le hPl k3) (.inr ((k4 P hPl (.inr HV.out.rp)).trans HV.out.rp)) v7; have kX3 := j5 X (Nat.lt_of_lt_of_le hXl k3) (.inl ((k4 X hXl (.inl x0)).trans x0)) (fun e => by subst e; omega); have s2 := (World.cell?_of_block (a := ⟨P, 2, none⟩) kp3).trans q2; have s3 := (World.cell?_of_block (a := ⟨P, 3, none⟩) kp3).trans q3; have g1 := (World.cell?_of_block (a := ⟨X, 1, none⟩) kX3).trans f1)
    | fail)
  all_goals go_wp2
  all_goals go_ret
  all_goals exact ⟨rfl, d1, some (V, Y, x1'), (PRT.after (bel_call HIN.out.bel hdl) hpt).up (by omega) (by omega)⟩
set_option maxRecDepth 100000 in
set_option maxHeartbeats 4000000 in
theorem pdo_add {w0 w : World} {D R P : Nat} {d : Dk} {o : Option (Nat × Nat × Va)} {k m : Nat} {ρ : Nat → Nat} (h : PR w0 D R P d o k m ρ w) (hk : k ≤ 80000) (hm : m ≤ 80000) (ht : KTab w0) (s : StepV) (hs : StepV.ok w0 s) (hB : s.B.length ≤ 20000) (hL : sizeI s.L ≤ 90000) (hLl : s.L.length ≤ 250000) (h3 : s.a % 6 ≠ 3) (h4 : s.a % 6 ≠ 4) (h5 : s.a % 6 ≠ 5) (V Y : Nat) (x : Va) (ho : o = some (V, Y, x)) :
    Calls Tryz.prog 10 #[.pointer (some ⟨P, 0, none⟩), .agg s.cellsV] w fun e w' => e = .returned (.bool true) ∧ ∃ d' o', PRT w0 D R P d' o' (k + 3) (m + (44 + sizeI s.L) + s.B.length) ρ w w' := by
  subst ho
  have a0 := hs.a0
  have a1 := hs.a1
  have hin := doIn h s
  have hpo := fun W (hp : PR w0 D R P d (some (V, Y, x)) k m ρ W) => popen_c hp (by omega) (by omega) ht
  have hdo := fun W ρ1 (r : Rk) (hp : Pair w0 D R d r ρ1 W) (hr : Rel d r k m) => do_c hp hr (by omega) (by omega) s.disk hs.disk (by show s.B.length ≤ _; omega)
  unfold StepV.cellsV at *
  have e4 : (s.a % 6 == 4) = false := beq_false_of_ne h4
  have e5 : (s.a % 6 == 5) = false := beq_false_of_ne h5
  have e3 : (s.a % 6 == 3) = false := beq_false_of_ne h3
  clear h3 h4 h5
  have htt := ht
  obtain ⟨lp, lc, hlv, -⟩ := hs.l.shape
  have HLV := Lib.hid hlv
  have HS := Lib.hid hs
  have HT := Lib.hid ht
  clear hpo hdo hs ht htt h hlv
  go_enter Tryz.func10, Tryz.ntmps10
  go_upto_region 1 with fail
  refine wp_gen (fun W => DoIn w0 w D R P d (some (V, Y, x)) k m ρ w.heap.size s W) hin ?_
  have HRX := Lib.hid (show ∃ X, X = w.heap.size from ⟨_, rfl⟩)
  clear hin
  generalize hXe : w.heap.size = X
  have HXE := Lib.hid hXe
  clear hXe HRX
  rintro W hin
  have c0 := hin.c0
  have HIN := Lib.hid hin
  clear hin
  have t3 : W.cell? ⟨P, 3, none⟩ = some (.pointer (some ⟨Y, 0, none⟩)) := by
    obtain ⟨r, -, -, hV, -⟩ := HIN.out.pr
    exact hV.p3
  go_upto_region 10 with fail
  have hdl := (Below.refl W.heap.size W).drew
  have hpd := HIN.out.pr.keep hdl
  obtain ⟨r, hr, hP, hV, hB', hvb⟩ := hpd
  have HP := Lib.hid hP
  have HV := Lib.hid hV
  have HRL := Lib.hid hr
  have HVB := Lib.hid hvb
  have HBY := Lib.hid hB'
  have x0 := HIN.out.rx
  have hXl := HIN.out.x
  have p2 : W.drew.cell? ⟨P, 2, none⟩ = some (.pointer (some ⟨V, 0, none⟩)) := hV.p2
  have p3 : W.drew.cell? ⟨P, 3, none⟩ = some (.pointer (some ⟨Y, 0, none⟩)) := hV.p3
  have x1 : W.drew.cell? ⟨X, 1, none⟩ = some (.slice lp s.L.length lc) := by rw [← HLV.out]; exact HIN.out.c1
  have hPl : P < W.drew.heap.size := hV.lt
  obtain ⟨v1, v2, v3, v4, v5, v6, v7⟩ := hV.v V Y x rfl
  obtain ⟨u1, u2, u3, u4⟩ := hvb V Y x rfl
  have hl0 := HS.out.l
  rw [HLV.out] at hl0
  have hll := fun W2 (hb : Below w0.heap.size w0 W2) => hl0.keep hb
  have kv := add_all_c ⟨hP.1, v1, v3⟩ hr.dsz (by omega) (by omega) (HT.out.below hP.2.2.2 HT.out.lt) _ s.L (hll _ hP.2.2.2) HS.out.lb (by omega) hLl ⟨u3, by omega⟩
  have kx := fun w2 (rr : Rk) (ρ2 : Nat → Nat) (hp2 : Pair w0 D R (d.addV x s.L).2.1 r ρ2 w2) (hy : VaAt w2 Y R x) (h4 : ρ2 Y = 4) => radd_c hp2.ref hy h4 hr (by omega) (by omega) _ s.L (hll _ hp2.2.2.2) HS.out.lb (by omega) hLl ⟨u3, by omega⟩
  have hby := hB'.addV x s.L HS.out.lb
  have hvb2 : VB (some (V, Y, (d.addV x s.L).2.2)) (m + (44 + sizeI s.L)) := add_vb u1 u2 u3 u4
  generalize (d.addV x s.L) = q at *
  obtain ⟨c, d1, x1'⟩ := q
  have KV := Lib.hid kv
  have KX := Lib.hid kx
  have HBY2 := Lib.hid hby
  have HVB2 := Lib.hid hvb2
  have yl := v2
  clear hr hP hB' hvb kv kx hl0 hll hby hvb2
  simp only at KV KX HBY2 HVB2
  go_region_held3 (fun w' => w'.cell? ⟨P, 2, none⟩ = some (.pointer (some ⟨V, 0, none⟩)) ∧ w'.cell? ⟨P, 3, none⟩ = some (.pointer (some ⟨Y, 0, none⟩)) ∧ w'.cell? ⟨X, 1, none⟩ = some (.slice lp s.L.length lc)) (first | exact ⟨p2, p3, x1⟩ | exact ⟨q2, q3, f1⟩ | exact ⟨s2, s3, g1⟩ | fail) (first
    | (go_at_call 14; (with_reducible refine KV.out.mono ?_); rintro e w2 ⟨rfl, hl⟩; obtain ⟨ρ1, P1, k1, k2, k3, k4, k5⟩ := pair_vault HP.out v3 hl; have kp := k5 P hPl (.inr HV.out.rp) v6; have kX := k5 X hXl (.inl x0) (fun e => by subst e; omega); have q2 := (World.cell?_of_block (a := ⟨P, 2, none⟩) kp).trans p2; have q3 := (World.cell?_of_block (a := ⟨P, 3, none⟩) kp).trans p3; have f1 := (World.cell?_of_block (a := ⟨X, 1, none⟩) kX).trans x1)
    | (go_at_call 28; (with_reducible refine (KX.out _ r _ P1 (v2.same (k5 Y v2.lt (.inr v4) v5.symm)) ((k4 Y v2.lt (.inr v4)).trans v4)).mono ?_); rintro e w3 ⟨rfl, hl3⟩; obtain ⟨r3, ρ3, j0, P3, j1, j2, j3, j4, j5⟩ := pair_xault P1 ((k4 Y v2.lt (.inr v4)).trans v4) hl3; have hpt := both_vault HV.out k1 k2 k3 k4 k5 j0 P3 j1 j2 j3 j4 j5 HBY2.out HVB2.out; have kp3 := j5 P (Nat.lt_of_lt_of_le hPl k3) (.inr ((k4 P hPl (.inr HV.out.rp)).trans HV.out.rp)) v7; have kX3 := j5 X (Nat.lt_of_lt_of_le hXl k3) (.inl ((k4 X hXl (.inl x0)).trans x0)) (fun e => by subst e; omega); have s2 := (World.cell?_of_block (a := ⟨P, 2, none⟩) kp3).trans q2; have s3 := (World.cell?_of_block (a := ⟨P, 3, none⟩) kp3).trans q3; have g1 := (World.cell?_of_block (a := ⟨X, 1, none⟩) kX3).trans f1)
    | fail)
  all_goals go_wp2
  all_goals go_ret
  all_goals exact ⟨rfl, d1, some (V, Y, x1'), (PRT.after (bel_call HIN.out.bel hdl) hpt).up (by omega) (by omega)⟩
theorem pdo_c {w0 w : World} {D R P : Nat} {d : Dk} {o : Option (Nat × Nat × Va)} {k m : Nat} {ρ : Nat → Nat} (h : PR w0 D R P d o k m ρ w) (hk : k ≤ 80000) (hm : m ≤ 80000) (ht : KTab w0) (s : StepV) (hs : StepV.ok w0 s) (hB : s.B.length ≤ 20000) (hL : sizeI s.L ≤ 90000) (hLl : s.L.length ≤ 250000) :
    Calls Tryz.prog 10 #[.pointer (some ⟨P, 0, none⟩), .agg s.cellsV] w fun e w' => e = .returned (.bool true) ∧ ∃ d' o', PRT w0 D R P d' o' (k + 3) (m + (44 + sizeI s.L) + s.B.length) ρ w w' := by
  by_cases h4 : s.a % 6 = 4
  · exact pdo_open h hk hm ht s hs hB hL hLl h4
  · by_cases h5 : s.a % 6 = 5
    · exact pdo_disk h hk hm ht s hs hB hL hLl h5
    · rcases o with _ | ⟨V, Y, x⟩
      · exact pdo_nil h hk hm ht s hs hB hL hLl h4 h5 rfl
      · by_cases h3 : s.a % 6 = 3
        · exact pdo_comp h hk hm ht s hs hB hL hLl h3 V Y x rfl
        · exact pdo_add h hk hm ht s hs hB hL hLl h3 h4 h5 V Y x rfl
end Go.Proofs.YtfohemgfiidokaaGreatDoor
