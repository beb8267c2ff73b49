/- The document's Compact, alike with the program's. -/
import Derived.Test.YtfohemgfiidokaaGreatDoorHe
namespace Go.Proofs.YtfohemgfiidokaaGreatDoor
open Go.RowKit Go.Sort

section
variable {w : World} {ρ : Nat → Nat} {R X : Nat} {d : Dk} {r : Rk} {x : Va} {k m : Nat}
theorem room_bounds (hr : Rel d r k m) : 0 ≤ roomF d ∧ roomF d ≤ 4194304 := by
  have h0 := hr.m0
  have h1 := hr.m1
  unfold roomF
  omega
set_option maxRecDepth 100000 in
theorem rv_read (h : RefAt w ρ R r) (hr : Rel d r k m) (hk : k ≤ 100000) (hm : m ≤ 1000000) (hoff : d.off = false) (f : Nat) (hf : f < 2) : Calls Tryz.prog 25 #[.pointer (some ⟨R, 0, none⟩), .int .i64 f] w fun e w' => ∃ p c, e = .returned (.tuple #[.slice p (d.file f).stands.length c, .int .i64 0]) ∧ Below w.heap.size w w' := by
  have c6 := h.power
  rw [hr.power, hoff] at c6
  have ks := rv_stands h hr hk hm f f hf rfl
  have hsz := strOfNums_size (d.file f).stands
  have f0 : (0 : Int) ≤ f := by omega
  have f1 : ¬ 1 < (f : Int) := by omega
  generalize (d.file f).stands.length = sl at *
  generalize strOfNums (d.file f).stands = s at *
  have KS := Lib.hid ks
  have HSZ := Lib.hid hsz
  clear ks hr hoff hsz h
  go_enter Tryz.func25, Tryz.ntmps25
  go_wp2_with (first | (go_at_call 55; (with_reducible refine KS.out.mono ?_); rintro e w2 ⟨rfl, n, rfl⟩; obtain ⟨cp, w3, hcv, hta, hb⟩ := text_conv s (w.drewN n); rw [HSZ.out] at hcv; have HB := Lib.hid hb; clear hb hta) | fail)
  go_ret2
  exact ⟨_, _, rfl, bel_call (below_drewN w n) HB.out⟩
set_option maxRecDepth 100000 in
set_option maxHeartbeats 4000000 in
theorem rcomp_no (h : RefAt w ρ R r) (hx : VaAt w X R x) (hX : ρ X = 4) (hr : Rel d r k m) (v : Value) (ls : List (List Int)) (hv : RdL w v ls) (hln : ls.length ≤ 250000) (hm0 : vmayv x.broken ls ≠ 0) (k' m' : Nat) (hk : k ≤ k') (hm : m ≤ m') :
    Calls Tryz.prog 27 #[.pointer (some ⟨X, 0, none⟩), v] w fun e w' => e = .returned (.int .i64 (vmayv x.broken ls)) ∧ RXL ρ R X w d x k' m' w' := by
  have HL := Lib.hid (rlong_c v ls w hv (by omega))
  have HF := Lib.hid (rxl_below h hx hX hr (Below.refl w.heap.size w) hk hm)
  have c4 := hx.broken
  obtain ⟨p, cap, rfl, hcap, hel⟩ := hv.shape
  clear hel hcap hv h hr
  unfold vmayv at hm0 ⊢
  generalize lngI ls = lg at *
  generalize x.broken = bk at *
  cases bk
  · cases lg
    · exact absurd rfl hm0
    · clear hm0
      go_enter Tryz.func27, Tryz.ntmps27
      go_wp2_with (first | (go_at_call 64; (with_reducible refine HL.out.mono ?_); rintro e w1 ⟨rfl, hw1⟩; obtain rfl := hw1.symm; clear hw1) | fail)
      go_ret
      exact ⟨rfl, HF.out⟩
  · clear hm0
    go_enter Tryz.func27, Tryz.ntmps27
    go_wp2_with fail
    go_ret
    exact ⟨rfl, HF.out⟩
set_option maxRecDepth 100000 in
set_option maxHeartbeats 4000000 in
theorem rcomp_many (h : RefAt w ρ R r) (hx : VaAt w X R x) (hX : ρ X = 4) (hr : Rel d r k m) (hk : k ≤ 90000) (hm : m ≤ 800000) (hf : x.file < 2) (v : Value) (ls : List (List Int)) (hv : RdL w v ls) (hlb : ∀ r ∈ ls, Bytes r) (hsz : sizeI ls ≤ 90000) (hln : ls.length ≤ 250000) (hg0 : 0 ≤ x.gen) (hm0 : vmayv x.broken ls = 0) (hg : 4611686018427387904 ≤ x.gen) :
    Calls Tryz.prog 27 #[.pointer (some ⟨X, 0, none⟩), v] w fun e w' => e = .returned (.int .i64 (d.compV x ls).1) ∧ RXL ρ R X w (d.compV x ls).2.1 (d.compV x ls).2.2 (k + 3) (m + (44 + sizeI ls)) w' := by
  have hA : d.compV x ls = (6, d, x) := by unfold Dk.compV; rw [if_neg (by simp [hm0]), if_pos hg]
  have _ := And.intro hk (And.intro hm (And.intro hf (And.intro hlb hg0)))
  rw [hA]
  obtain ⟨hbk, hlg⟩ := vmayv_zero hm0
  have hl0 := rlong_c v ls w hv (by omega)
  rw [hlg] at hl0
  have HL := Lib.hid hl0
  have HX := Lib.hid hx
  have HH := Lib.hid h
  have HRL := Lib.hid hr
  have c0 := hx.d
  have c1 := hx.file
  have c2 := hx.gen
  have c3 := hx.n
  have c4 := hx.broken
  rw [hbk] at c4
  have hd : decide (4611686018427387904 ≤ x.gen) = true := decide_eq_true hg
  obtain ⟨p, cap, rfl, hcap, hel⟩ := hv.shape
  clear hel hcap hv h hr hx hm0 hbk hlg hl0 hA hg
  go_enter Tryz.func27, Tryz.ntmps27
  go_wp2_with (first | (go_at_call 64; (with_reducible refine HL.out.mono ?_); rintro e w1 ⟨rfl, hw1⟩; obtain rfl := hw1.symm; clear hw1) | fail)
  go_ret
  exact ⟨rfl, rxl_below HH.out HX.out hX HRL.out (Below.refl w.heap.size w) (by omega) (by omega)⟩
set_option maxRecDepth 100000 in
set_option maxHeartbeats 4000000 in
theorem rcomp_off (h : RefAt w ρ R r) (hx : VaAt w X R x) (hX : ρ X = 4) (hr : Rel d r k m) (hk : k ≤ 90000) (hm : m ≤ 800000) (hf : x.file < 2) (v : Value) (ls : List (List Int)) (hv : RdL w v ls) (hlb : ∀ r ∈ ls, Bytes r) (hsz : sizeI ls ≤ 90000) (hln : ls.length ≤ 250000) (hg0 : 0 ≤ x.gen) (hm0 : vmayv x.broken ls = 0) (hg : ¬ 4611686018427387904 ≤ x.gen) (hoff : d.off = true) :
    Calls Tryz.prog 27 #[.pointer (some ⟨X, 0, none⟩), v] w fun e w' => e = .returned (.int .i64 (d.compV x ls).1) ∧ RXL ρ R X w (d.compV x ls).2.1 (d.compV x ls).2.2 (k + 3) (m + (44 + sizeI ls)) w' := by
  have hA : d.compV x ls = (8, d, { x with broken := true }) := by unfold Dk.compV; rw [if_neg (by simp [hm0]), if_neg hg, if_pos hoff]
  have _ := And.intro hk (And.intro hm (And.intro hf (And.intro hlb hg0)))
  rw [hA]
  obtain ⟨hbk, hlg⟩ := vmayv_zero hm0
  have hl0 := rlong_c v ls w hv (by omega)
  rw [hlg] at hl0
  have HL := Lib.hid hl0
  have HX := Lib.hid hx
  have HH := Lib.hid h
  have HRL := Lib.hid hr
  have c0 := hx.d
  have c1 := hx.file
  have c2 := hx.gen
  have c3 := hx.n
  have c4 := hx.broken
  rw [hbk] at c4
  have hd : decide (4611686018427387904 ≤ x.gen) = false := decide_eq_false hg
  have hrm : rmay r.power (1 - (x.file : Int)) = 8 := by rw [hr.power, hoff]; rfl
  have hn := rread_no h (1 - (x.file : Int)) (by rw [hrm]; decide)
  rw [hrm] at hn
  have HN := Lib.hid hn
  have hfw : IntKind.i64.wrap (1 - (x.file : Int)) = 1 - x.file := by rw [IntKind.wrap_i64]; omega
  obtain ⟨p, cap, rfl, hcap, hel⟩ := hv.shape
  clear hel hcap hv h hr hx hm0 hbk hlg hl0 hA hg hrm hn hoff
  go_enter Tryz.func27, Tryz.ntmps27
  go_wp2_with (first | (go_at_call 64; (with_reducible refine HL.out.mono ?_); rintro e w1 ⟨rfl, hw1⟩; obtain rfl := hw1.symm; clear hw1) | (go_at_call 25; (with_reducible refine HN.out.mono ?_); rintro e w1 ⟨rfl, hw1⟩; obtain rfl := hw1.symm; clear hw1) | (go_at_call 65; (with_reducible refine (rtold_c HX.out 8).mono ?_); rintro e w9 ⟨rfl, rfl⟩) | fail)
  go_ret
  exact ⟨rfl, rxl_told HH.out HX.out hX HRL.out (MrX.refl ρ X w) true (by omega) (by omega)⟩
set_option maxRecDepth 100000 in
set_option maxHeartbeats 4000000 in
theorem rcomp_full (h : RefAt w ρ R r) (hx : VaAt w X R x) (hX : ρ X = 4) (hr : Rel d r k m) (hk : k ≤ 90000) (hm : m ≤ 800000) (hf : x.file < 2) (v : Value) (ls : List (List Int)) (hv : RdL w v ls) (hlb : ∀ r ∈ ls, Bytes r) (hsz : sizeI ls ≤ 90000) (hln : ls.length ≤ 250000) (hg0 : 0 ≤ x.gen) (hm0 : vmayv x.broken ls = 0) (hg : ¬ 4611686018427387904 ≤ x.gen) (hoff : d.off = false) (hlt : roomF d + (d.file (1 - x.file)).stands.length < ((44 + sizeI ls : Nat) : Int)) :
    Calls Tryz.prog 27 #[.pointer (some ⟨X, 0, none⟩), v] w fun e w' => e = .returned (.int .i64 (d.compV x ls).1) ∧ RXL ρ R X w (d.compV x ls).2.1 (d.compV x ls).2.2 (k + 3) (m + (44 + sizeI ls)) w' := by
  have hA : d.compV x ls = (7, d, x) := by unfold Dk.compV; rw [if_neg (by simp [hm0]), if_neg hg, if_neg (by rw [hoff]; simp), if_pos hlt]
  rw [hA]
  obtain ⟨hbk, hlg⟩ := vmayv_zero hm0
  have hl0 := rlong_c v ls w hv (by omega)
  rw [hlg] at hl0
  have HL := Lib.hid hl0
  have HX := Lib.hid hx
  have HH := Lib.hid h
  have HRL := Lib.hid hr
  have c0 := hx.d
  have c1 := hx.file
  have c2 := hx.gen
  have c3 := hx.n
  have c4 := hx.broken
  rw [hbk] at c4
  have hd : decide (4611686018427387904 ≤ x.gen) = false := decide_eq_false hg
  have hfw : IntKind.i64.wrap (1 - (x.file : Int)) = ((1 - x.file : Nat) : Int) := by rw [IntKind.wrap_i64]; omega
  have hgw : IntKind.u64.wrap (x.gen + 1) = x.gen + 1 := by rw [IntKind.wrap_u64]; omega
  have hof : 1 - x.file < 2 := by omega
  have HRD := Lib.hid (rv_read h hr (by omega) (by omega) hoff (1 - x.file) hof)
  have HFN := Lib.hid (fun W => rfront_c (x.gen + 1) ls.length W (by omega))
  have HFR := Lib.hid (fun W (hb : Below w.heap.size w W) => rframes_c (x.gen + 1) 0 v ls W (hv.keep hb) hlb (by omega) (by omega) (by omega))
  have HR := Lib.hid (fun W (hb : Below w.heap.size w W) => rv_room (h.keep hb) hr (by omega) (by omega))
  have hXl := hx.lt
  have HKC := Lib.hid (fun (W : World) (hb : Below w.heap.size w W) (o : Nat) => show W.cell? ⟨X, o, none⟩ = w.cell? ⟨X, o, none⟩ from hb.cell hXl)
  have hfl := framesI_len (x.gen + 1) ls 0
  have hhl := headI_len (x.gen + 1) ls.length
  have hcl : (compS x ls).length = 44 + sizeI ls := by unfold compS; rw [List.length_append, hhl, hfl]
  have hss := strOfNums_size (compS x ls)
  rw [hcl] at hss
  have hcb : Bytes (compS x ls) := by
    unfold compS
    exact fun b hb => (List.mem_append.1 hb).elim (head_bytes (x.gen + 1) ls.length b) (frames_bytes (x.gen + 1) ls 0 hlb b)
  have hns := nums_str _ hcb
  have HNS := Lib.hid hns
  have HSS := Lib.hid hss
  have had := str_add (headI (x.gen + 1) ls.length) (framesI (x.gen + 1) 0 ls) (by omega)
  rw [show headI (x.gen + 1) ls.length ++ framesI (x.gen + 1) 0 ls = compS x ls from rfl] at had
  have hrf : 0 ≤ roomF d ∧ roomF d ≤ 4194304 := room_bounds hr
  have hsl : (d.file (1 - x.file)).stands.length ≤ 900000 := by
    have h1 := hr.z (1 - x.file)
    have h2 := stands_len (d.file (1 - x.file))
    omega
  have hrw : IntKind.i64.wrap (roomF d + (d.file (1 - x.file)).stands.length) = roomF d + (d.file (1 - x.file)).stands.length := by rw [IntKind.wrap_i64]; omega
  have hq : decide (roomF d + (d.file (1 - x.file)).stands.length < ((44 + sizeI ls : Nat) : Int)) = true := decide_eq_true hlt
  clear hA
  obtain ⟨p, cap, rfl, hcap, hel⟩ := hv.shape
  clear hel hcap hv h hr hx hm0 hns hbk hlg hl0 hg hoff hhl hfl hcl hcb hrf hsl hlt
  generalize strOfNums (compS x ls) = s at *
  generalize strOfNums (headI (x.gen + 1) ls.length) = sh at *
  generalize strOfNums (framesI (x.gen + 1) 0 ls) = sf at *
  generalize (d.file (1 - x.file)).stands.length = sl at *
  generalize 44 + sizeI ls = sz at *
  generalize 1 - x.file = oi at *
  go_enter Tryz.func27, Tryz.ntmps27
  go_upto_region 11 with (first | (go_at_call 64; (with_reducible refine HL.out.mono ?_); rintro e w1 ⟨rfl, hw1⟩; obtain rfl := hw1.symm; clear hw1) | (go_at_call 25; (with_reducible refine HRD.out.mono ?_); rintro e w2 ⟨p2, cap2, rfl, b2⟩; have k2 := (HKC.out _ b2 2).trans c2) | fail)
  have b2d := bel_call b2 (Below.refl w2.heap.size w2).drew
  have k2d : w2.drew.cell? ⟨X, 2, none⟩ = some (.int .u64 x.gen) := k2
  go_region_held3 (fun W => W.cell? ⟨X, 2, none⟩ = some (.int .u64 x.gen)) (first | exact k2d | exact k3 | exact k4 | fail) (first | (go_at_call 66; (with_reducible refine (HFN.out _).mono ?_); rintro e w3 ⟨rfl, b3⟩; have b3 := bel_call b2d b3; have k3 := (HKC.out _ b3 2).trans c2) | (go_at_call 67; (with_reducible refine (HFR.out _ b3).mono ?_); rintro e w4 ⟨rfl, b4⟩; have b4 := bel_call b3 b4; have k4 := (HKC.out _ b4 2).trans c2) | fail)
  all_goals have k40 := (HKC.out _ b4 0).trans c0
  all_goals go_wp2_with (first | (go_at_call 23; (with_reducible refine (HR.out _ b4).mono ?_); rintro e w5 ⟨rfl, q, rfl⟩; have b5 := bel_call b4 (below_drewN w4 q); have k5 := (HKC.out _ b5 0).trans c0) | fail)
  all_goals go_ret
  all_goals exact ⟨rfl, rxl_below HH.out HX.out hX HRL.out b5 (by omega) (by omega)⟩
set_option maxRecDepth 100000 in
set_option maxHeartbeats 4000000 in
theorem rcomp_go (h : RefAt w ρ R r) (hx : VaAt w X R x) (hX : ρ X = 4) (hr : Rel d r k m) (hk : k ≤ 90000) (hm : m ≤ 800000) (hf : x.file < 2) (v : Value) (ls : List (List Int)) (hv : RdL w v ls) (hlb : ∀ r ∈ ls, Bytes r) (hsz : sizeI ls ≤ 90000) (hln : ls.length ≤ 250000) (hg0 : 0 ≤ x.gen) (hm0 : vmayv x.broken ls = 0) (hg : ¬ 4611686018427387904 ≤ x.gen) (hoff : d.off = false) (hlt : ¬ roomF d + (d.file (1 - x.file)).stands.length < ((44 + sizeI ls : Nat) : Int)) :
    Calls Tryz.prog 27 #[.pointer (some ⟨X, 0, none⟩), v] w fun e w' => e = .returned (.int .i64 (d.compV x ls).1) ∧ RXL ρ R X w (d.compV x ls).2.1 (d.compV x ls).2.2 (k + 3) (m + (44 + sizeI ls)) w' := by
  have hA : d.compV x ls = if (seqD (compL x ls) d).1 = 0 then (0, (seqD (compL x ls) d).2, ⟨1 - x.file, x.gen + 1, ls.length, false⟩) else ((seqD (compL x ls) d).1, (seqD (compL x ls) d).2, { x with broken := true }) := by unfold Dk.compV; rw [if_neg (by simp [hm0]), if_neg hg, if_neg (by rw [hoff]; simp), if_neg hlt]
  have hoi : (1 : Int) - x.file = ((1 - x.file : Nat) : Int) := by omega
  have hS : seqD (compL x ls) d = seqD [fun d => d.vcut ((1 - x.file : Nat) : Int) 0, fun d => d.write ((1 - x.file : Nat) : Int) (compS x ls), fun d => d.sync ((1 - x.file : Nat) : Int), fun d => d.cut x.file 0] d := by unfold compL; rw [hoi]
  rw [seqD, seqD, seqD, seqD, seqD] at hS
  rw [hS] at hA
  clear hS hoi
  obtain ⟨hbk, hlg⟩ := vmayv_zero hm0
  have hl0 := rlong_c v ls w hv (by omega)
  rw [hlg] at hl0
  have HL := Lib.hid hl0
  have HX := Lib.hid hx
  have HH := Lib.hid h
  have HRL := Lib.hid hr
  have c0 := hx.d
  have c1 := hx.file
  have c2 := hx.gen
  have c3 := hx.n
  have c4 := hx.broken
  rw [hbk] at c4
  have hd : decide (4611686018427387904 ≤ x.gen) = false := decide_eq_false hg
  have hfw : IntKind.i64.wrap (1 - (x.file : Int)) = ((1 - x.file : Nat) : Int) := by rw [IntKind.wrap_i64]; omega
  have hgw : IntKind.u64.wrap (x.gen + 1) = x.gen + 1 := by rw [IntKind.wrap_u64]; omega
  have hof : 1 - x.file < 2 := by omega
  have HRD := Lib.hid (rv_read h hr (by omega) (by omega) hoff (1 - x.file) hof)
  have HFN := Lib.hid (fun W => rfront_c (x.gen + 1) ls.length W (by omega))
  have HFR := Lib.hid (fun W (hb : Below w.heap.size w W) => rframes_c (x.gen + 1) 0 v ls W (hv.keep hb) hlb (by omega) (by omega) (by omega))
  have HR := Lib.hid (fun W (hb : Below w.heap.size w W) => rv_room (h.keep hb) hr (by omega) (by omega))
  have hXl := hx.lt
  have HKC := Lib.hid (fun (W : World) (hb : Below w.heap.size w W) (o : Nat) => show W.cell? ⟨X, o, none⟩ = w.cell? ⟨X, o, none⟩ from hb.cell hXl)
  have hfl := framesI_len (x.gen + 1) ls 0
  have hhl := headI_len (x.gen + 1) ls.length
  have hcl : (compS x ls).length = 44 + sizeI ls := by unfold compS; rw [List.length_append, hhl, hfl]
  have hss := strOfNums_size (compS x ls)
  rw [hcl] at hss
  have hcb : Bytes (compS x ls) := by
    unfold compS
    exact fun b hb => (List.mem_append.1 hb).elim (head_bytes (x.gen + 1) ls.length b) (frames_bytes (x.gen + 1) ls 0 hlb b)
  have hns := nums_str _ hcb
  have HNS := Lib.hid hns
  have HSS := Lib.hid hss
  have had := str_add (headI (x.gen + 1) ls.length) (framesI (x.gen + 1) 0 ls) (by omega)
  rw [show headI (x.gen + 1) ls.length ++ framesI (x.gen + 1) 0 ls = compS x ls from rfl] at had
  have hrf : 0 ≤ roomF d ∧ roomF d ≤ 4194304 := room_bounds hr
  have hsl : (d.file (1 - x.file)).stands.length ≤ 900000 := by
    have h1 := hr.z (1 - x.file)
    have h2 := stands_len (d.file (1 - x.file))
    omega
  have hrw : IntKind.i64.wrap (roomF d + (d.file (1 - x.file)).stands.length) = roomF d + (d.file (1 - x.file)).stands.length := by rw [IntKind.wrap_i64]; omega
  have hq : decide (roomF d + (d.file (1 - x.file)).stands.length < ((44 + sizeI ls : Nat) : Int)) = false := decide_eq_false hlt
  have K1 := fun W (hb : Below w.heap.size w W) => rv_cut (h.keep hb) hr (by omega) (by omega) hoff (((1 - x.file : Nat)) : Int) (1 - x.file) hof rfl 0
  generalize d.vcut ((1 - x.file : Nat) : Int) 0 = q1 at *
  have K2 := fun w1 ρ1 r1 (a1 : RefAt w1 ρ1 R r1) (l1 : Rel q1.2 r1 (k + 1) m) v (hv : RdS w1 ρ1 v (compS x ls)) => rv_write a1 l1 (by omega) (by omega) ((1 - x.file : Nat) : Int) v (compS x ls) hv (by omega)
  rw [hcl] at K2
  generalize q1.2.write ((1 - x.file : Nat) : Int) (compS x ls) = q2 at *
  have K3 := fun w1 ρ1 r1 (a1 : RefAt w1 ρ1 R r1) (l1 : Rel q2.2 r1 (k + 1 + 1) (m + (44 + sizeI ls))) => rv_sync a1 l1 (by omega) (by omega) ((1 - x.file : Nat) : Int)
  generalize q2.2.sync ((1 - x.file : Nat) : Int) = q3 at *
  have K4 := fun w1 ρ1 r1 (a1 : RefAt w1 ρ1 R r1) (l1 : Rel q3.2 r1 (k + 1 + 1) (m + (44 + sizeI ls))) => rv_dcut a1 l1 (by omega) (by omega) x.file 0
  generalize q3.2.cut x.file 0 = q4 at *
  obtain ⟨y1, d1⟩ := q1
  obtain ⟨y2, d2⟩ := q2
  obtain ⟨y3, d3⟩ := q3
  obtain ⟨y4, d4⟩ := q4
  simp only at *
  have H1 := Lib.hid K1; have H2 := Lib.hid K2; have H3 := Lib.hid K3; have H4 := Lib.hid K4
  clear K1 K2 K3 K4
  by_cases z1 : y1 = 0
  · by_cases z2 : y2 = 0
    · by_cases z3 : y3 = 0
      · by_cases z4 : y4 = 0
        · have HV : d.compV x ls = (0, d4, ⟨1 - x.file, x.gen + 1, ls.length, false⟩) := by
            rw [hA, if_pos z1, if_pos z2, if_pos z3, if_pos z4]; rfl
          rw [HV]
          subst z1 z2 z3 z4
          clear hA HV
          obtain ⟨p, cap, rfl, hcap, hel⟩ := hv.shape
          clear hel hcap hv h hr hx hm0 hns hbk hlg hl0 hg hoff hhl hfl hcl hcb hrf hsl hlt
          generalize strOfNums (compS x ls) = s at *
          generalize strOfNums (headI (x.gen + 1) ls.length) = sh at *
          generalize strOfNums (framesI (x.gen + 1) 0 ls) = sf at *
          generalize (d.file (1 - x.file)).stands.length = sl at *
          generalize 44 + sizeI ls = sz at *
          generalize 1 - x.file = oi at *
          go_enter Tryz.func27, Tryz.ntmps27
          go_upto_region 11 with (first | (go_at_call 64; (with_reducible refine HL.out.mono ?_); rintro e w1 ⟨rfl, hw1⟩; obtain rfl := hw1.symm; clear hw1) | (go_at_call 25; (with_reducible refine HRD.out.mono ?_); rintro e w2 ⟨p2, cap2, rfl, b2⟩; have k2 := (HKC.out _ b2 2).trans c2) | fail)
          have b2d := bel_call b2 (Below.refl w2.heap.size w2).drew
          have k2d : w2.drew.cell? ⟨X, 2, none⟩ = some (.int .u64 x.gen) := k2
          go_region_held3 (fun W => W.cell? ⟨X, 2, none⟩ = some (.int .u64 x.gen)) (first | exact k2d | exact k3 | exact k4 | fail) (first | (go_at_call 66; (with_reducible refine (HFN.out _).mono ?_); rintro e w3 ⟨rfl, b3⟩; have b3 := bel_call b2d b3; have k3 := (HKC.out _ b3 2).trans c2) | (go_at_call 67; (with_reducible refine (HFR.out _ b3).mono ?_); rintro e w4 ⟨rfl, b4⟩; have b4 := bel_call b3 b4; have k4 := (HKC.out _ b4 2).trans c2) | fail)
          all_goals have k40 := (HKC.out _ b4 0).trans c0
          all_goals go_upto_region 20 with (first | (go_at_call 23; (with_reducible refine (HR.out _ b4).mono ?_); rintro e w5 ⟨rfl, q, rfl⟩; have b5 := bel_call b4 (below_drewN w4 q); have k5 := (HKC.out _ b5 0).trans c0) | (go_at_call 57; (with_reducible refine (H1.out _ b5).mono ?_); rintro e w6 ⟨rfl, r6, ρ6, l6, a6, m6⟩; have mm6 := (MrX.ofBelow ρ X b5).trans (m6.x X); have va6 := (HX.out.keep b5).mr m6 hX; have x6 : ρ6 X = 4 := (mm6.role X hXl).trans hX; have g60 := va6.d; obtain ⟨cp, w7, hcv, hta, b7⟩ := text_conv s w6; rw [HNS.out] at hta; have t7 : RdS w7 ρ6 (.slice (some ⟨w6.heap.size, 0, none⟩) sz cp) (compS x ls) := (by (have t7 := hta.rds (ρ := ρ6) (a6.fresh _ (Nat.le_refl _)); rw [HSS.out] at t7; exact t7)); rw [HSS.out] at hcv; have a7 := a6.keep b7; have va7 := va6.keep b7; have mm7 := mm6.trans (MrX.ofBelow ρ6 X b7); have g70 := va7.d; have B7 := Lib.hid b7; clear b7 hta) | (go_at_call 63; (with_reducible refine (H2.out _ _ _ a7 l6 _ t7).mono ?_); rintro e w8 ⟨rfl, r8, ρ8, l8, a8, m8⟩; have mm8 := mm7.trans (m8.x X); have va8 := va7.mr m8 x6; have x8 : ρ8 X = 4 := (mm8.role X hXl).trans hX; have g80 := va8.d) | (go_at_call 58; (with_reducible refine (H3.out _ _ _ a8 l8).mono ?_); rintro e w9 ⟨rfl, r9, ρ9, l9, a9, m9⟩; have mm9 := mm8.trans (m9.x X); have va9 := va8.mr m9 x8; have x9 : ρ9 X = 4 := (mm9.role X hXl).trans hX; have g90 := va9.d) | fail)
          all_goals have hb9 := (Below.refl w9.heap.size w9).drew
          all_goals have a9d := a9.keep hb9
          all_goals have va9d := va9.keep hb9
          all_goals have mm9d := mm9.trans (MrX.ofBelow ρ9 X hb9)
          all_goals have s0 := va9d.d
          all_goals have s1 := va9d.file
          all_goals go_region_held3 (fun V => V.cell? ⟨X, 0, none⟩ = some (.pointer (some ⟨R, 0, none⟩)) ∧ V.cell? ⟨X, 1, none⟩ = some (.int .i64 x.file)) (first | exact ⟨s0, s1⟩ | exact ⟨t0, t1⟩ | fail) (first | (go_at_call 59; (with_reducible refine (H4.out _ _ _ a9d l9).mono ?_); rintro e w10 ⟨rfl, r10, ρ10, l10, a10, m10⟩; have mm10 := mm9d.trans (m10.x X); have va10 := va9d.mr m10 x9; have x10 : ρ10 X = 4 := (mm10.role X hXl).trans hX; have t0 := va10.d; have t1 := va10.file) | fail)
          all_goals have p1 := va10.fz 1
          all_goals have p2 := va10.fz 2
          all_goals have p3 := va10.fz 3
          all_goals have f1 := va10.file
          all_goals have vb1 := va10.setFile oi
          all_goals have f2 := vb1.gen
          all_goals have vb2 := vb1.setGen (x.gen + 1)
          all_goals have f3 := vb2.n
          all_goals have vb3 := vb2.setN ls.length
          all_goals have p2b := vb1.fz 2
          all_goals have p3b := vb2.fz 3
          all_goals have ab3 := ((a10.setX x10 1 (.int .i64 oi)).setX x10 2 (.int .u64 (x.gen + 1))).setX x10 3 (.int .i64 ls.length)
          all_goals have mb3 := ((mm10.set 1 (.int .i64 oi)).set 2 (.int .u64 (x.gen + 1))).set 3 (.int .i64 ls.length)
          all_goals go_wp2_with (first | (go_at_call 65; (with_reducible refine (rtold_c vb3 0).mono ?_); rintro e w11 ⟨rfl, rfl⟩) | fail)
          all_goals go_ret
          all_goals exact ⟨rfl, rxl_told ab3 vb3 x10 l10 mb3 false (by omega) (by omega)⟩
        · have HV : d.compV x ls = (y4, d4, { x with broken := true }) := by
            rw [hA, if_pos z1, if_pos z2, if_pos z3, if_neg z4, if_neg z4]
          rw [HV]
          subst z1 z2 z3
          have e3 : (y4 == 0) = false := beq_false_of_ne z4
          have hdt : (!decide (y4 = 0)) = true := by simp [z4]
          have HDT := Lib.hid hdt
          clear hA HV z4 hdt
          obtain ⟨p, cap, rfl, hcap, hel⟩ := hv.shape
          clear hel hcap hv h hr hx hm0 hns hbk hlg hl0 hg hoff hhl hfl hcl hcb hrf hsl hlt
          generalize strOfNums (compS x ls) = s at *
          generalize strOfNums (headI (x.gen + 1) ls.length) = sh at *
          generalize strOfNums (framesI (x.gen + 1) 0 ls) = sf at *
          generalize (d.file (1 - x.file)).stands.length = sl at *
          generalize 44 + sizeI ls = sz at *
          generalize 1 - x.file = oi at *
          go_enter Tryz.func27, Tryz.ntmps27
          go_upto_region 11 with (first | (go_at_call 64; (with_reducible refine HL.out.mono ?_); rintro e w1 ⟨rfl, hw1⟩; obtain rfl := hw1.symm; clear hw1) | (go_at_call 25; (with_reducible refine HRD.out.mono ?_); rintro e w2 ⟨p2, cap2, rfl, b2⟩; have k2 := (HKC.out _ b2 2).trans c2) | fail)
          have b2d := bel_call b2 (Below.refl w2.heap.size w2).drew
          have k2d : w2.drew.cell? ⟨X, 2, none⟩ = some (.int .u64 x.gen) := k2
          go_region_held3 (fun W => W.cell? ⟨X, 2, none⟩ = some (.int .u64 x.gen)) (first | exact k2d | exact k3 | exact k4 | fail) (first | (go_at_call 66; (with_reducible refine (HFN.out _).mono ?_); rintro e w3 ⟨rfl, b3⟩; have b3 := bel_call b2d b3; have k3 := (HKC.out _ b3 2).trans c2) | (go_at_call 67; (with_reducible refine (HFR.out _ b3).mono ?_); rintro e w4 ⟨rfl, b4⟩; have b4 := bel_call b3 b4; have k4 := (HKC.out _ b4 2).trans c2) | fail)
          all_goals have k40 := (HKC.out _ b4 0).trans c0
          all_goals go_upto_region 20 with (first | (go_at_call 23; (with_reducible refine (HR.out _ b4).mono ?_); rintro e w5 ⟨rfl, q, rfl⟩; have b5 := bel_call b4 (below_drewN w4 q); have k5 := (HKC.out _ b5 0).trans c0) | (go_at_call 57; (with_reducible refine (H1.out _ b5).mono ?_); rintro e w6 ⟨rfl, r6, ρ6, l6, a6, m6⟩; have mm6 := (MrX.ofBelow ρ X b5).trans (m6.x X); have va6 := (HX.out.keep b5).mr m6 hX; have x6 : ρ6 X = 4 := (mm6.role X hXl).trans hX; have g60 := va6.d; obtain ⟨cp, w7, hcv, hta, b7⟩ := text_conv s w6; rw [HNS.out] at hta; have t7 : RdS w7 ρ6 (.slice (some ⟨w6.heap.size, 0, none⟩) sz cp) (compS x ls) := (by (have t7 := hta.rds (ρ := ρ6) (a6.fresh _ (Nat.le_refl _)); rw [HSS.out] at t7; exact t7)); rw [HSS.out] at hcv; have a7 := a6.keep b7; have va7 := va6.keep b7; have mm7 := mm6.trans (MrX.ofBelow ρ6 X b7); have g70 := va7.d; have B7 := Lib.hid b7; clear b7 hta) | (go_at_call 63; (with_reducible refine (H2.out _ _ _ a7 l6 _ t7).mono ?_); rintro e w8 ⟨rfl, r8, ρ8, l8, a8, m8⟩; have mm8 := mm7.trans (m8.x X); have va8 := va7.mr m8 x6; have x8 : ρ8 X = 4 := (mm8.role X hXl).trans hX; have g80 := va8.d) | (go_at_call 58; (with_reducible refine (H3.out _ _ _ a8 l8).mono ?_); rintro e w9 ⟨rfl, r9, ρ9, l9, a9, m9⟩; have mm9 := mm8.trans (m9.x X); have va9 := va8.mr m9 x8; have x9 : ρ9 X = 4 := (mm9.role X hXl).trans hX; have g90 := va9.d) | fail)
          all_goals have hb9 := (Below.refl w9.heap.size w9).drew
          all_goals have a9d := a9.keep hb9
          all_goals have va9d := va9.keep hb9
          all_goals have mm9d := mm9.trans (MrX.ofBelow ρ9 X hb9)
          all_goals have s0 := va9d.d
          all_goals have s1 := va9d.file
          all_goals go_region_held3 (fun V => V.cell? ⟨X, 0, none⟩ = some (.pointer (some ⟨R, 0, none⟩)) ∧ V.cell? ⟨X, 1, none⟩ = some (.int .i64 x.file)) (first | exact ⟨s0, s1⟩ | exact ⟨t0, t1⟩ | fail) (first | (go_at_call 59; (with_reducible refine (H4.out _ _ _ a9d l9).mono ?_); rintro e w10 ⟨rfl, r10, ρ10, l10, a10, m10⟩; have mm10 := mm9d.trans (m10.x X); have va10 := va9d.mr m10 x9; have x10 : ρ10 X = 4 := (mm10.role X hXl).trans hX; have t0 := va10.d; have t1 := va10.file) | fail)
          all_goals go_wp2_with (first | (go_at_call 65; (with_reducible refine (rtold_c va10 y4).mono ?_); rintro e w11 ⟨rfl, rfl⟩) | fail)
          all_goals go_ret
          all_goals exact ⟨rfl, by rw [HDT.out]; exact rxl_told a10 va10 x10 l10 mm10 true (by omega) (by omega)⟩
      · have HV : d.compV x ls = (y3, d3, { x with broken := true }) := by
          rw [hA, if_pos z1, if_pos z2, if_neg z3, if_neg z3]
        rw [HV]
        subst z1 z2
        have e3 : (y3 == 0) = false := beq_false_of_ne z3
        have hdt : (!decide (y3 = 0)) = true := by simp [z3]
        have HDT := Lib.hid hdt
        clear hA HV z3 hdt
        obtain ⟨p, cap, rfl, hcap, hel⟩ := hv.shape
        clear hel hcap hv h hr hx hm0 hns hbk hlg hl0 hg hoff hhl hfl hcl hcb hrf hsl hlt
        generalize strOfNums (compS x ls) = s at *
        generalize strOfNums (headI (x.gen + 1) ls.length) = sh at *
        generalize strOfNums (framesI (x.gen + 1) 0 ls) = sf at *
        generalize (d.file (1 - x.file)).stands.length = sl at *
        generalize 44 + sizeI ls = sz at *
        generalize 1 - x.file = oi at *
        go_enter Tryz.func27, Tryz.ntmps27
        go_upto_region 11 with (first | (go_at_call 64; (with_reducible refine HL.out.mono ?_); rintro e w1 ⟨rfl, hw1⟩; obtain rfl := hw1.symm; clear hw1) | (go_at_call 25; (with_reducible refine HRD.out.mono ?_); rintro e w2 ⟨p2, cap2, rfl, b2⟩; have k2 := (HKC.out _ b2 2).trans c2) | fail)
        have b2d := bel_call b2 (Below.refl w2.heap.size w2).drew
        have k2d : w2.drew.cell? ⟨X, 2, none⟩ = some (.int .u64 x.gen) := k2
        go_region_held3 (fun W => W.cell? ⟨X, 2, none⟩ = some (.int .u64 x.gen)) (first | exact k2d | exact k3 | exact k4 | fail) (first | (go_at_call 66; (with_reducible refine (HFN.out _).mono ?_); rintro e w3 ⟨rfl, b3⟩; have b3 := bel_call b2d b3; have k3 := (HKC.out _ b3 2).trans c2) | (go_at_call 67; (with_reducible refine (HFR.out _ b3).mono ?_); rintro e w4 ⟨rfl, b4⟩; have b4 := bel_call b3 b4; have k4 := (HKC.out _ b4 2).trans c2) | fail)
        all_goals have k40 := (HKC.out _ b4 0).trans c0
        all_goals go_wp2_with (first | (go_at_call 23; (with_reducible refine (HR.out _ b4).mono ?_); rintro e w5 ⟨rfl, q, rfl⟩; have b5 := bel_call b4 (below_drewN w4 q); have k5 := (HKC.out _ b5 0).trans c0) | (go_at_call 57; (with_reducible refine (H1.out _ b5).mono ?_); rintro e w6 ⟨rfl, r6, ρ6, l6, a6, m6⟩; have mm6 := (MrX.ofBelow ρ X b5).trans (m6.x X); have va6 := (HX.out.keep b5).mr m6 hX; have x6 : ρ6 X = 4 := (mm6.role X hXl).trans hX; have g60 := va6.d; obtain ⟨cp, w7, hcv, hta, b7⟩ := text_conv s w6; rw [HNS.out] at hta; have t7 : RdS w7 ρ6 (.slice (some ⟨w6.heap.size, 0, none⟩) sz cp) (compS x ls) := (by (have t7 := hta.rds (ρ := ρ6) (a6.fresh _ (Nat.le_refl _)); rw [HSS.out] at t7; exact t7)); rw [HSS.out] at hcv; have a7 := a6.keep b7; have va7 := va6.keep b7; have mm7 := mm6.trans (MrX.ofBelow ρ6 X b7); have g70 := va7.d; have B7 := Lib.hid b7; clear b7 hta) | (go_at_call 63; (with_reducible refine (H2.out _ _ _ a7 l6 _ t7).mono ?_); rintro e w8 ⟨rfl, r8, ρ8, l8, a8, m8⟩; have mm8 := mm7.trans (m8.x X); have va8 := va7.mr m8 x6; have x8 : ρ8 X = 4 := (mm8.role X hXl).trans hX; have g80 := va8.d) | (go_at_call 58; (with_reducible refine (H3.out _ _ _ a8 l8).mono ?_); rintro e w9 ⟨rfl, r9, ρ9, l9, a9, m9⟩; have mm9 := mm8.trans (m9.x X); have va9 := va8.mr m9 x8; have x9 : ρ9 X = 4 := (mm9.role X hXl).trans hX; have g90 := va9.d) | (go_at_call 65; (with_reducible refine (rtold_c va9 y3).mono ?_); rintro e w11 ⟨rfl, rfl⟩) | fail)
        all_goals go_ret
        all_goals exact ⟨rfl, by rw [HDT.out]; exact rxl_told a9 va9 x9 l9 mm9 true (by omega) (by omega)⟩
    · have HV : d.compV x ls = (y2, d2, { x with broken := true }) := by
        rw [hA, if_pos z1, if_neg z2, if_neg z2]
      rw [HV]
      subst z1
      have e3 : (y2 == 0) = false := beq_false_of_ne z2
      have hdt : (!decide (y2 = 0)) = true := by simp [z2]
      have HDT := Lib.hid hdt
      clear hA HV z2 hdt
      obtain ⟨p, cap, rfl, hcap, hel⟩ := hv.shape
      clear hel hcap hv h hr hx hm0 hns hbk hlg hl0 hg hoff hhl hfl hcl hcb hrf hsl hlt
      generalize strOfNums (compS x ls) = s at *
      generalize strOfNums (headI (x.gen + 1) ls.length) = sh at *
      generalize strOfNums (framesI (x.gen + 1) 0 ls) = sf at *
      generalize (d.file (1 - x.file)).stands.length = sl at *
      generalize 44 + sizeI ls = sz at *
      generalize 1 - x.file = oi at *
      go_enter Tryz.func27, Tryz.ntmps27
      go_upto_region 11 with (first | (go_at_call 64; (with_reducible refine HL.out.mono ?_); rintro e w1 ⟨rfl, hw1⟩; obtain rfl := hw1.symm; clear hw1) | (go_at_call 25; (with_reducible refine HRD.out.mono ?_); rintro e w2 ⟨p2, cap2, rfl, b2⟩; have k2 := (HKC.out _ b2 2).trans c2) | fail)
      have b2d := bel_call b2 (Below.refl w2.heap.size w2).drew
      have k2d : w2.drew.cell? ⟨X, 2, none⟩ = some (.int .u64 x.gen) := k2
      go_region_held3 (fun W => W.cell? ⟨X, 2, none⟩ = some (.int .u64 x.gen)) (first | exact k2d | exact k3 | exact k4 | fail) (first | (go_at_call 66; (with_reducible refine (HFN.out _).mono ?_); rintro e w3 ⟨rfl, b3⟩; have b3 := bel_call b2d b3; have k3 := (HKC.out _ b3 2).trans c2) | (go_at_call 67; (with_reducible refine (HFR.out _ b3).mono ?_); rintro e w4 ⟨rfl, b4⟩; have b4 := bel_call b3 b4; have k4 := (HKC.out _ b4 2).trans c2) | fail)
      all_goals have k40 := (HKC.out _ b4 0).trans c0
      all_goals go_wp2_with (first | (go_at_call 23; (with_reducible refine (HR.out _ b4).mono ?_); rintro e w5 ⟨rfl, q, rfl⟩; have b5 := bel_call b4 (below_drewN w4 q); have k5 := (HKC.out _ b5 0).trans c0) | (go_at_call 57; (with_reducible refine (H1.out _ b5).mono ?_); rintro e w6 ⟨rfl, r6, ρ6, l6, a6, m6⟩; have mm6 := (MrX.ofBelow ρ X b5).trans (m6.x X); have va6 := (HX.out.keep b5).mr m6 hX; have x6 : ρ6 X = 4 := (mm6.role X hXl).trans hX; have g60 := va6.d; obtain ⟨cp, w7, hcv, hta, b7⟩ := text_conv s w6; rw [HNS.out] at hta; have t7 : RdS w7 ρ6 (.slice (some ⟨w6.heap.size, 0, none⟩) sz cp) (compS x ls) := (by (have t7 := hta.rds (ρ := ρ6) (a6.fresh _ (Nat.le_refl _)); rw [HSS.out] at t7; exact t7)); rw [HSS.out] at hcv; have a7 := a6.keep b7; have va7 := va6.keep b7; have mm7 := mm6.trans (MrX.ofBelow ρ6 X b7); have g70 := va7.d; have B7 := Lib.hid b7; clear b7 hta) | (go_at_call 63; (with_reducible refine (H2.out _ _ _ a7 l6 _ t7).mono ?_); rintro e w8 ⟨rfl, r8, ρ8, l8, a8, m8⟩; have mm8 := mm7.trans (m8.x X); have va8 := va7.mr m8 x6; have x8 : ρ8 X = 4 := (mm8.role X hXl).trans hX; have g80 := va8.d) | (go_at_call 58; (with_reducible refine (H3.out _ _ _ a8 l8).mono ?_); rintro e w9 ⟨rfl, r9, ρ9, l9, a9, m9⟩; have mm9 := mm8.trans (m9.x X); have va9 := va8.mr m9 x8; have x9 : ρ9 X = 4 := (mm9.role X hXl).trans hX; have g90 := va9.d) | (go_at_call 65; (with_reducible refine (rtold_c va8 y2).mono ?_); rintro e w11 ⟨rfl, rfl⟩) | fail)
      all_goals go_ret
      all_goals exact ⟨rfl, by rw [HDT.out]; exact rxl_told a8 va8 x8 l8 mm8 true (by omega) (by omega)⟩
  · have HV : d.compV x ls = (y1, d1, { x with broken := true }) := by
      rw [hA, if_neg z1, if_neg z1]
    rw [HV]
    have e3 : (y1 == 0) = false := beq_false_of_ne z1
    have hdt : (!decide (y1 = 0)) = true := by simp [z1]
    have HDT := Lib.hid hdt
    clear hA HV z1 hdt
    obtain ⟨p, cap, rfl, hcap, hel⟩ := hv.shape
    clear hel hcap hv h hr hx hm0 hns hbk hlg hl0 hg hoff hhl hfl hcl hcb hrf hsl hlt
    generalize strOfNums (compS x ls) = s at *
    generalize strOfNums (headI (x.gen + 1) ls.length) = sh at *
    generalize strOfNums (framesI (x.gen + 1) 0 ls) = sf at *
    generalize (d.file (1 - x.file)).stands.length = sl at *
    generalize 44 + sizeI ls = sz at *
    generalize 1 - x.file = oi at *
    go_enter Tryz.func27, Tryz.ntmps27
    go_upto_region 11 with (first | (go_at_call 64; (with_reducible refine HL.out.mono ?_); rintro e w1 ⟨rfl, hw1⟩; obtain rfl := hw1.symm; clear hw1) | (go_at_call 25; (with_reducible refine HRD.out.mono ?_); rintro e w2 ⟨p2, cap2, rfl, b2⟩; have k2 := (HKC.out _ b2 2).trans c2) | fail)
    have b2d := bel_call b2 (Below.refl w2.heap.size w2).drew
    have k2d : w2.drew.cell? ⟨X, 2, none⟩ = some (.int .u64 x.gen) := k2
    go_region_held3 (fun W => W.cell? ⟨X, 2, none⟩ = some (.int .u64 x.gen)) (first | exact k2d | exact k3 | exact k4 | fail) (first | (go_at_call 66; (with_reducible refine (HFN.out _).mono ?_); rintro e w3 ⟨rfl, b3⟩; have b3 := bel_call b2d b3; have k3 := (HKC.out _ b3 2).trans c2) | (go_at_call 67; (with_reducible refine (HFR.out _ b3).mono ?_); rintro e w4 ⟨rfl, b4⟩; have b4 := bel_call b3 b4; have k4 := (HKC.out _ b4 2).trans c2) | fail)
    all_goals have k40 := (HKC.out _ b4 0).trans c0
    all_goals go_wp2_with (first | (go_at_call 23; (with_reducible refine (HR.out _ b4).mono ?_); rintro e w5 ⟨rfl, q, rfl⟩; have b5 := bel_call b4 (below_drewN w4 q); have k5 := (HKC.out _ b5 0).trans c0) | (go_at_call 57; (with_reducible refine (H1.out _ b5).mono ?_); rintro e w6 ⟨rfl, r6, ρ6, l6, a6, m6⟩; have mm6 := (MrX.ofBelow ρ X b5).trans (m6.x X); have va6 := (HX.out.keep b5).mr m6 hX; have x6 : ρ6 X = 4 := (mm6.role X hXl).trans hX; have g60 := va6.d; obtain ⟨cp, w7, hcv, hta, b7⟩ := text_conv s w6; rw [HNS.out] at hta; have t7 : RdS w7 ρ6 (.slice (some ⟨w6.heap.size, 0, none⟩) sz cp) (compS x ls) := (by (have t7 := hta.rds (ρ := ρ6) (a6.fresh _ (Nat.le_refl _)); rw [HSS.out] at t7; exact t7)); rw [HSS.out] at hcv; have a7 := a6.keep b7; have va7 := va6.keep b7; have mm7 := mm6.trans (MrX.ofBelow ρ6 X b7); have g70 := va7.d; have B7 := Lib.hid b7; clear b7 hta) | (go_at_call 63; (with_reducible refine (H2.out _ _ _ a7 l6 _ t7).mono ?_); rintro e w8 ⟨rfl, r8, ρ8, l8, a8, m8⟩; have mm8 := mm7.trans (m8.x X); have va8 := va7.mr m8 x6; have x8 : ρ8 X = 4 := (mm8.role X hXl).trans hX; have g80 := va8.d) | (go_at_call 58; (with_reducible refine (H3.out _ _ _ a8 l8).mono ?_); rintro e w9 ⟨rfl, r9, ρ9, l9, a9, m9⟩; have mm9 := mm8.trans (m9.x X); have va9 := va8.mr m9 x8; have x9 : ρ9 X = 4 := (mm9.role X hXl).trans hX; have g90 := va9.d) | (go_at_call 65; (with_reducible refine (rtold_c va6 y1).mono ?_); rintro e w11 ⟨rfl, rfl⟩) | fail)
    all_goals go_ret
    all_goals exact ⟨rfl, by rw [HDT.out]; exact rxl_told a6 va6 x6 l6 mm6 true (by omega) (by omega)⟩
theorem rcomp_c (h : RefAt w ρ R r) (hx : VaAt w X R x) (hX : ρ X = 4) (hr : Rel d r k m) (hk : k ≤ 90000) (hm : m ≤ 800000) (hf : x.file < 2) (v : Value) (ls : List (List Int)) (hv : RdL w v ls) (hlb : ∀ r ∈ ls, Bytes r) (hsz : sizeI ls ≤ 90000) (hln : ls.length ≤ 250000) (hg0 : 0 ≤ x.gen) :
    Calls Tryz.prog 27 #[.pointer (some ⟨X, 0, none⟩), v] w fun e w' => e = .returned (.int .i64 (d.compV x ls).1) ∧ RXL ρ R X w (d.compV x ls).2.1 (d.compV x ls).2.2 (k + 3) (m + (44 + sizeI ls)) w' := by
  by_cases hm0 : vmayv x.broken ls = 0
  · by_cases hg : 4611686018427387904 ≤ x.gen
    · exact rcomp_many h hx hX hr hk hm hf v ls hv hlb hsz hln hg0 hm0 hg
    · cases hoff : d.off
      · by_cases hlt : roomF d + (d.file (1 - x.file)).stands.length < ((44 + sizeI ls : Nat) : Int)
        · exact rcomp_full h hx hX hr hk hm hf v ls hv hlb hsz hln hg0 hm0 hg hoff hlt
        · exact rcomp_go h hx hX hr hk hm hf v ls hv hlb hsz hln hg0 hm0 hg hoff hlt
      · exact rcomp_off h hx hX hr hk hm hf v ls hv hlb hsz hln hg0 hm0 hg hoff
  · have hA : d.compV x ls = (vmayv x.broken ls, d, x) := by unfold Dk.compV; rw [if_pos hm0]
    rw [hA]
    exact rcomp_no h hx hX hr v ls hv hln hm0 _ _ (by omega) (by omega)
end
end Go.Proofs.YtfohemgfiidokaaGreatDoor
