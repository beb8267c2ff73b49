/- Both disks beside each other; the law's Do. -/
import Derived.Test.YtfohemgfiidokaaGreatDoorGz
import Derived.Test.YtfohemgfiidokaaGreatDoorKz
import Derived.Deep.RegionHeld3
import Derived.Deep.Cut
namespace Go.Proofs.YtfohemgfiidokaaGreatDoor
open Go.RowKit Go.Sort

theorem RdB.rdm {w W : World} {v : Value} {xs : List Int} (h : RdB w v xs) (hb : Below w.heap.size w W) (hi : Nat) : RdM w.heap.size hi W v xs := by
  rcases h with h | ⟨a, g, o, cap, h1, h2, h3, h4⟩
  · exact .inl h
  · exact .inr ⟨a, g, o, cap, h1, h2, fun hl => ⟨h3 hl, .inl (block_lt_of_cell (h4 0 hl))⟩, fun j hj => by rw [hb.cell (block_lt_of_cell (h4 j hj))]; exact h4 j hj⟩
structure StepD where
  a : Int
  F : Int
  N : Int
  B : List Int
  bv : Value
  pp : Option Addr
  pl : Nat
  pc : Nat
  pk : Nat → Int
def StepD.val (s : StepD) : Value := .agg #[.int .u8 s.a, .int .i64 s.F, .int .i64 s.N, s.bv, .slice s.pp s.pl s.pc]
structure StepD.ok (w : World) (s : StepD) : Prop where
  a0 : 0 ≤ s.a
  a1 : s.a ≤ 255
  n1 : s.N ≤ 9223372036854775807
  b : RdB w s.bv s.B
  bl : s.B.length ≤ 1000000000000000
  p : PkIn w s.pp s.pl s.pk
  bb : Bytes s.B
def Pair (w0 : World) (D R : Nat) (d : Dk) (r : Rk) (ρ : Nat → Nat) (w : World) : Prop := DiskAt w ρ w0.heap.size D d ∧ RefAt w ρ R r ∧ (∀ g, g < w0.heap.size → ρ g = 0) ∧ Below w0.heap.size w0 w
def Aft (w0 : World) (D R : Nat) (d : Dk) (r : Rk) (ρ : Nat → Nat) (W w' : World) : Prop := ∃ ρ', Pair w0 D R d r ρ' w' ∧ W.heap.size ≤ w'.heap.size ∧ ∀ g, g < W.heap.size → ρ g = 0 ∨ ρ g = 4 → ρ' g = ρ g ∧ w'.heap[g]? = W.heap[g]?
theorem Pair.keep {w0 w W : World} {D R : Nat} {d : Dk} {r : Rk} {ρ : Nat → Nat} (h : Pair w0 D R d r ρ w) (hb : Below w.heap.size w W) : Pair w0 D R d r ρ W := ⟨h.1.keep hb, h.2.1.keep hb, h.2.2.1, bel_call h.2.2.2 hb⟩
theorem pair_below {w0 W w' : World} {D R : Nat} {d : Dk} {r : Rk} {ρ : Nat → Nat} (h : Pair w0 D R d r ρ W) (hb : Below W.heap.size W w') : Aft w0 D R d r ρ W w' := ⟨ρ, h.keep hb, hb.size, fun g hg _ => ⟨rfl, hb.block g hg⟩⟩
theorem pair_disk {w0 W w' : World} {D R : Nat} {d d' : Dk} {r : Rk} {ρ : Nat → Nat} (h : Pair w0 D R d r ρ W) (hl : Left ρ w0.heap.size D W d' w') : Aft w0 D R d' r ρ W w' := by
  obtain ⟨ρ', k1, k2⟩ := hl
  obtain ⟨-, h2, h3, h4⟩ := h
  have hs := h4.size
  exact ⟨ρ', ⟨k1, h2.other (fun g hg h5 h7 => ⟨k2.role g hg, k2.block g hg (.inr (by omega))⟩) k1.fresh, fun g hg => (k2.role g (by omega)).trans (h3 g hg), h4.trans (k2.below fun g hg => ⟨by omega, .inl (h3 g hg)⟩)⟩, k2.size, fun g hg hz => ⟨k2.role g hg, k2.block g hg (by rcases hz with hz | hz; exact .inl hz; exact .inr (by omega))⟩⟩
theorem pair_ref {w0 W w' : World} {D R : Nat} {d : Dk} {r r' : Rk} {ρ : Nat → Nat} (h : Pair w0 D R d r ρ W) (hl : RLeft ρ R W r' w') : Aft w0 D R d r' ρ W w' := by
  obtain ⟨ρ', k1, k2⟩ := hl
  obtain ⟨h1, -, h3, h4⟩ := h
  have hs := h4.size
  exact ⟨ρ', ⟨h1.other k2.size (fun g hg h5 => ⟨k2.role g hg, k2.block g hg (.inl (by omega))⟩) k1.fresh, k1, fun g hg => (k2.role g (by omega)).trans (h3 g hg), h4.trans ⟨k2.os, k2.tape, k2.output, k2.size, fun g hg => k2.block g (by omega) (.inl (by rw [h3 g hg]; omega))⟩⟩, k2.size, fun g hg hz => ⟨k2.role g hg, k2.block g hg (.inl (by omega))⟩⟩
theorem Pair.rds {w0 W : World} {D R : Nat} {d : Dk} {r : Rk} {ρ : Nat → Nat} (h : Pair w0 D R d r ρ W) {v : Value} {b : List Int} (hv : RdB w0 v b) : RdS W ρ v b := (hv.rdm h.2.2.2 W.heap.size).rds h.2.2.1 h.2.1.fresh
theorem Pair.picks {w0 W : World} {D R : Nat} {d : Dk} {r : Rk} {ρ : Nat → Nat} (h : Pair w0 D R d r ρ W) {p : Option Addr} {len : Nat} {pk : Nat → Int} (hp : PkIn w0 p len pk) : PicksAt W ρ p len pk :=
  ⟨fun i _ hl => by obtain ⟨g, o, h1, h2⟩ := hp.1 i hl; exact ⟨g, o, h1, by rw [h.2.2.2.cell (block_lt_of_cell h2)]; exact h2, h.2.2.1 g (block_lt_of_cell h2)⟩, fun i _ hl => hp.2.1 i hl, fun i _ => hp.2.2.1 i, fun i _ => hp.2.2.2 i⟩
theorem aft_two {w0 w W w2 w3 : World} {D R X : Nat} {d1 : Dk} {r1 : Rk} {ρ ρ2 ρ3 : Nat → Nat} (hXe : w.heap.size = X) (hb : Below X w W) (hX : X < W.heap.size) (hs2 : W.heap.size ≤ w2.heap.size) (hz2 : ∀ g, g < W.heap.size → ρ g = 0 ∨ ρ g = 4 → ρ2 g = ρ g ∧ w2.heap[g]? = W.heap[g]?)
    (hp3 : Pair w0 D R d1 r1 ρ3 w3) (hs3 : w2.heap.size ≤ w3.heap.size) (hz3 : ∀ g, g < w2.heap.size → ρ2 g = 0 ∨ ρ2 g = 4 → ρ3 g = ρ2 g ∧ w3.heap[g]? = w2.heap[g]?) : Aft w0 D R d1 r1 ρ w w3 := by
  subst hXe
  refine ⟨ρ3, hp3, by omega, fun g hg hr => ?_⟩
  obtain ⟨a1, a2⟩ := hz2 g (by omega) hr
  obtain ⟨b1, b2⟩ := hz3 g (by omega) (by rw [a1]; exact hr)
  exact ⟨b1.trans a1, b2.trans (a2.trans (hb.block g hg))⟩
theorem op_cut {w0 : World} {D R : Nat} {d : Dk} {r : Rk} {k m : Nat} (h : Rel d r k m) (hk : k ≤ 100000) (hm : m ≤ 100000) (F N : Int) : ∃ (z : Int) (d1 : Dk) (r1 : Rk), (DBy d → DBy d1) ∧ Rel d1 r1 (k + 1) (m) ∧
    (∀ W ρ, Pair w0 D R d r ρ W → Calls Tryz.prog 52 #[.pointer (some ⟨D, 0, none⟩), .int .i64 F, .int .i64 N] W fun e w' => e = .returned (.int .i64 z) ∧ Aft w0 D R d1 r ρ W w') ∧
    (∀ W ρ, Pair w0 D R d1 r ρ W → Calls Tryz.prog 59 #[.pointer (some ⟨R, 0, none⟩), .int .i64 F, .int .i64 N] W fun e w' => e = .returned (.int .i64 z) ∧ Aft w0 D R d1 r1 ρ W w') := by
  obtain ⟨hq, hr⟩ := h.cut (by omega) (by omega) F N
  have ok := h.ok (by omega) (by omega)
  refine ⟨(d.cut F N).1, (d.cut F N).2, (r.cut F N).2, fun b => b.cut F N, hr.up (by omega) (by omega), fun W ρ hp => ?_, fun W ρ hp => ?_⟩
  · exact (cut_any hp.1 ok.1 F N).mono fun e w' ⟨he, hl⟩ => ⟨he, pair_disk hp hl⟩
  · rw [hq]
    exact (rcut_c hp.2.1 ok.2 F N).mono fun e w' ⟨he, hl⟩ => ⟨he, pair_ref hp hl⟩
theorem op_sync {w0 : World} {D R : Nat} {d : Dk} {r : Rk} {k m : Nat} (h : Rel d r k m) (hk : k ≤ 100000) (hm : m ≤ 100000) (F : Int) : ∃ (z : Int) (d1 : Dk) (r1 : Rk), (DBy d → DBy d1) ∧ Rel d1 r1 (k + 1) (m) ∧
    (∀ W ρ, Pair w0 D R d r ρ W → Calls Tryz.prog 35 #[.pointer (some ⟨D, 0, none⟩), .int .i64 F] W fun e w' => e = .returned (.int .i64 z) ∧ Aft w0 D R d1 r ρ W w') ∧
    (∀ W ρ, Pair w0 D R d1 r ρ W → Calls Tryz.prog 58 #[.pointer (some ⟨R, 0, none⟩), .int .i64 F] W fun e w' => e = .returned (.int .i64 z) ∧ Aft w0 D R d1 r1 ρ W w') := by
  obtain ⟨hq, hr⟩ := h.sync (by omega) (by omega) F
  have ok := h.ok (by omega) (by omega)
  refine ⟨(d.sync F).1, (d.sync F).2, (r.sync F).2, fun b => b.sync F, hr.up (by omega) (by omega), fun W ρ hp => ?_, fun W ρ hp => ?_⟩
  · exact (sync_any hp.1 ok.1 F).mono fun e w' ⟨he, hl⟩ => ⟨he, pair_disk hp hl⟩
  · rw [hq]
    exact (rsync_c hp.2.1 ok.2 F).mono fun e w' ⟨he, hl⟩ => ⟨he, pair_ref hp hl⟩
theorem op_fuse {w0 : World} {D R : Nat} {d : Dk} {r : Rk} {k m : Nat} (h : Rel d r k m) (hk : k ≤ 100000) (hm : m ≤ 100000) (N : Int) (hN : N ≤ 9223372036854775807) : ∃ (z : Int) (d1 : Dk) (r1 : Rk), (DBy d → DBy d1) ∧ Rel d1 r1 (k + 1) (m) ∧
    (∀ W ρ, Pair w0 D R d r ρ W → Calls Tryz.prog 21 #[.pointer (some ⟨D, 0, none⟩), .int .i64 N] W fun e w' => e = .returned (.int .i64 z) ∧ Aft w0 D R d1 r ρ W w') ∧
    (∀ W ρ, Pair w0 D R d1 r ρ W → Calls Tryz.prog 60 #[.pointer (some ⟨R, 0, none⟩), .int .i64 N] W fun e w' => e = .returned (.int .i64 z) ∧ Aft w0 D R d1 r1 ρ W w') := by
  obtain ⟨hq, hr⟩ := h.fuse N hN
  have ok := h.ok (by omega) (by omega)
  refine ⟨(d.fuse N).1, (d.fuse N).2, (r.fuse N).2, fun b => b.fuse N, hr.up (by omega) (by omega), fun W ρ hp => ?_, fun W ρ hp => ?_⟩
  · exact (fuse_any hp.1 N).mono fun e w' ⟨he, hl⟩ => ⟨he, pair_disk hp hl⟩
  · rw [hq]
    exact (rfuse_c hp.2.1 N).mono fun e w' ⟨he, hl⟩ => ⟨he, pair_ref hp hl⟩
theorem op_offc {w0 : World} {D R : Nat} {d : Dk} {r : Rk} {k m : Nat} (h : Rel d r k m) (hk : k ≤ 100000) (hm : m ≤ 100000)  : ∃ (z : Int) (d1 : Dk) (r1 : Rk), (DBy d → DBy d1) ∧ Rel d1 r1 (k + 1) (m) ∧
    (∀ W ρ, Pair w0 D R d r ρ W → Calls Tryz.prog 17 #[.pointer (some ⟨D, 0, none⟩)] W fun e w' => e = .returned (.int .i64 z) ∧ Aft w0 D R d1 r ρ W w') ∧
    (∀ W ρ, Pair w0 D R d1 r ρ W → Calls Tryz.prog 61 #[.pointer (some ⟨R, 0, none⟩)] W fun e w' => e = .returned (.int .i64 z) ∧ Aft w0 D R d1 r1 ρ W w') := by
  obtain ⟨hq, hr⟩ := h.offc
  have ok := h.ok (by omega) (by omega)
  refine ⟨(d.offc).1, (d.offc).2, (r.offc).2, fun b => b.offc, hr.up (by omega) (by omega), fun W ρ hp => ?_, fun W ρ hp => ?_⟩
  · exact (off_any hp.1).mono fun e w' ⟨he, hl⟩ => ⟨he, pair_disk hp hl⟩
  · rw [hq]
    exact (roff_c hp.2.1).mono fun e w' ⟨he, hl⟩ => ⟨he, pair_ref hp hl⟩
theorem op_onc {w0 : World} {D R : Nat} {d : Dk} {r : Rk} {k m : Nat} (h : Rel d r k m) (hk : k ≤ 100000) (hm : m ≤ 100000) (p : Option Addr) (len cap : Nat) (pk : Nat → Int) (hpk : PkIn w0 p len pk) : ∃ (z : Int) (d1 : Dk) (r1 : Rk), (DBy d → DBy d1) ∧ Rel d1 r1 (k + 1) (m) ∧
    (∀ W ρ, Pair w0 D R d r ρ W → Calls Tryz.prog 18 #[.pointer (some ⟨D, 0, none⟩), .slice p len cap] W fun e w' => e = .returned (.int .i64 z) ∧ Aft w0 D R d1 r ρ W w') ∧
    (∀ W ρ, Pair w0 D R d1 r ρ W → Calls Tryz.prog 62 #[.pointer (some ⟨R, 0, none⟩), .slice p len cap] W fun e w' => e = .returned (.int .i64 z) ∧ Aft w0 D R d1 r1 ρ W w') := by
  obtain ⟨hq, hr⟩ := h.onc pk
  have ok := h.ok (by omega) (by omega)
  refine ⟨(d.onc pk).1, (d.onc pk).2, (r.onc pk).2, fun b => b.onc pk, hr.up (by omega) (by omega), fun W ρ hp => ?_, fun W ρ hp => ?_⟩
  · exact (on_any hp.1 ok.1 p len cap pk (hp.picks hpk)).mono fun e w' ⟨he, hl⟩ => ⟨he, pair_disk hp hl⟩
  · rw [hq]
    exact (ron_c hp.2.1 ok.2 p len cap pk (hp.picks hpk)).mono fun e w' ⟨he, hl⟩ => ⟨he, pair_ref hp hl⟩
theorem op_write {w0 : World} {D R : Nat} {d : Dk} {r : Rk} {k m : Nat} (h : Rel d r k m) (hk : k ≤ 100000) (hm : m ≤ 100000) (F : Int) (v : Value) (b : List Int) (hv : RdB w0 v b) (hbl : b.length ≤ 1000000000) (hbb : Bytes b) : ∃ (z : Int) (d1 : Dk) (r1 : Rk), (DBy d → DBy d1) ∧ Rel d1 r1 (k + 1) (m + b.length) ∧
    (∀ W ρ, Pair w0 D R d r ρ W → Calls Tryz.prog 41 #[.pointer (some ⟨D, 0, none⟩), .int .i64 F, v] W fun e w' => e = .returned (.int .i64 z) ∧ Aft w0 D R d1 r ρ W w') ∧
    (∀ W ρ, Pair w0 D R d1 r ρ W → Calls Tryz.prog 63 #[.pointer (some ⟨R, 0, none⟩), .int .i64 F, v] W fun e w' => e = .returned (.int .i64 z) ∧ Aft w0 D R d1 r1 ρ W w') := by
  obtain ⟨hq, hr⟩ := h.write (by omega) (by omega) F b
  have ok := h.ok (by omega) (by omega)
  refine ⟨(d.write F b).1, (d.write F b).2, (r.write F b).2, fun b0 => b0.write F b hbb, hr.up (by omega) (by omega), fun W ρ hp => ?_, fun W ρ hp => ?_⟩
  · exact (write_any hp.1 ok.1 F v b (hp.rds hv) hbl).mono fun e w' ⟨he, hl⟩ => ⟨he, pair_disk hp hl⟩
  · rw [hq]
    exact (rwrite_c hp.2.1 ok.2 F v b (hp.rds hv) hbl).mono fun e w' ⟨he, hl⟩ => ⟨he, pair_ref hp hl⟩
theorem op_read {w0 : World} {D R : Nat} {d : Dk} {r : Rk} {k m : Nat} (h : Rel d r k m) (hk : k ≤ 100000) (hm : m ≤ 100000) (F : Int) : ∃ (z : Int) (X : ByteArray),
    (∀ W ρ, Pair w0 D R d r ρ W → Calls Tryz.prog 24 #[.pointer (some ⟨D, 0, none⟩), .int .i64 F] W fun e w' => ∃ p n c, e = .returned (.tuple #[.slice p n c, .int .i64 z]) ∧ TxtB w' (.slice p n c) X ∧ Below W.heap.size W w') ∧
    (∀ W ρ, Pair w0 D R d r ρ W → Calls Tryz.prog 25 #[.pointer (some ⟨R, 0, none⟩), .int .i64 F] W fun e w' => ∃ p n c, e = .returned (.tuple #[.slice p n c, .int .i64 z]) ∧ TxtB w' (.slice p n c) X ∧ Below W.heap.size W w') := by
  have ok := h.ok (by omega) (by omega)
  have hmm := h.may F
  by_cases hz : mayv d.off F = 0
  · obtain ⟨ho, f, hf, rfl⟩ := may_zero hz
    have hp : r.power = true := by rw [h.power, ho]; rfl
    refine ⟨0, strOfNums (d.file f).stands, fun W ρ hpp => ?_, fun W ρ hpp => ?_⟩
    · refine (read_at hpp.1 f (d.file f) (hpp.1.file f hf) hf (ok.1.file f) ho).mono fun e w' ⟨v, he, hr, hb⟩ => ?_
      obtain ⟨p, c, hv⟩ := hr.shape
      exact ⟨p, _, c, by rw [he, hv], fun W' hW' => by rw [← hv]; exact rd_text (hr.keep hW').rd, hb⟩
    · have := rread_at hpp.2.1 ok.2 hp f hf
      rw [h.stands (by omega) (by omega) f] at this
      exact this
  · refine ⟨mayv d.off F, ByteArray.empty, fun W ρ hpp => ?_, fun W ρ hpp => ?_⟩
    · exact (read_no hpp.1 F hz).mono fun e w' ⟨he, hw⟩ => ⟨none, 0, 0, he, fun W' _ => run_convert_bytes_nil W' 40 5 Tryz.underlying40 Tryz.underlying5 0 0 9 Tryz.underlying9, by rw [hw]; exact Below.refl _ _⟩
    · have := rread_no hpp.2.1 F (by rw [hmm]; exact hz)
      rw [hmm] at this
      exact this.mono fun e w' ⟨he, hw⟩ => ⟨none, 0, 0, he, fun W' _ => run_convert_bytes_nil W' 40 5 Tryz.underlying40 Tryz.underlying5 0 0 9 Tryz.underlying9, by rw [hw]; exact Below.refl _ _⟩
set_option maxRecDepth 100000 in
set_option maxHeartbeats 1600000 in
theorem do_c {w0 w : World} {D R : Nat} {d : Dk} {r : Rk} {k m : Nat} {ρ : Nat → Nat} (hp : Pair w0 D R d r ρ w) (hrel : Rel d r k m) (hk : k ≤ 100000) (hm : m ≤ 100000) (s : StepD) (hs : StepD.ok w0 s) (hbl : s.B.length ≤ 1000000000) :
    Calls Tryz.prog 26 #[.pointer (some ⟨D, 0, none⟩), .pointer (some ⟨R, 0, none⟩), s.val] w fun e w' => e = .returned (.bool true) ∧ ∃ d1 r1, (DBy d → DBy d1) ∧ Rel d1 r1 (k + 1) (m + s.B.length) ∧ Aft w0 D R d1 r1 ρ w w' := by
  obtain ⟨a, F, N, B, bv, pp, pl, pc, pk⟩ := s
  obtain ⟨pb, cb, hbv, -⟩ := hs.b.shape
  simp only at hbv
  subst hbv
  have hrd : RdB w0 (.slice pb B.length cb) B := hs.b
  have hpk : PkIn w0 pp pl pk := hs.p
  have a0 : (0 : Int) ≤ a := hs.a0
  have a1 : a ≤ 255 := hs.a1
  have n1 : N ≤ 9223372036854775807 := hs.n1
  have hbl' : B.length ≤ 1000000000 := hbl
  show Calls Tryz.prog 26 #[_, _, .agg #[.int .u8 a, .int .i64 F, .int .i64 N, .slice pb B.length cb, .slice pp pl pc]] w fun e w' => e = .returned (.bool true) ∧ ∃ d1 r1, (DBy d → DBy d1) ∧ Rel d1 r1 (k + 1) (m + B.length) ∧ Aft w0 D R d1 r1 ρ w w'
  have hbb : Bytes B := hs.bb
  clear hs hbl
  go_enter Tryz.func26, Tryz.ntmps26
  go_upto_region 1 with fail
  refine wp_gen (fun W => Pair w0 D R d r ρ W ∧ W.cell? ⟨w.heap.size, 0, none⟩ = some (.int .u8 a) ∧ W.cell? ⟨w.heap.size, 1, none⟩ = some (.int .i64 F) ∧ W.cell? ⟨w.heap.size, 2, none⟩ = some (.int .i64 N) ∧ W.cell? ⟨w.heap.size, 3, none⟩ = some (.slice pb B.length cb) ∧ W.cell? ⟨w.heap.size, 4, none⟩ = some (.slice pp pl pc) ∧ w.heap.size < W.heap.size ∧ ρ w.heap.size = 0 ∧ Below w.heap.size w W) ⟨hp.keep (bel_alloc (Below.refl _ _) _), by simp [go_sem], by simp [go_sem], by simp [go_sem], by simp [go_sem], by simp [go_sem], by simp, hp.2.1.fresh _ (Nat.le_refl _), bel_alloc (Below.refl _ _) _⟩ ?_
  clear hp
  generalize hXe : w.heap.size = X
  have HXE := Lib.hid hXe
  clear hXe
  rintro W ⟨hp, c0, c1, c2, c3, c4, hXs, hX0, hBW⟩
  have HBW := Lib.hid hBW
  clear hBW
  by_cases h8 : a % 8 = 2
  · skip
    have t2 : (a % 8 == 2) = true := beq_iff_eq.2 h8
    obtain ⟨z, d1, r1, hdb, hrl, kd, kr⟩ := op_cut (w0 := w0) (D := D) (R := R) hrel hk hm F N
    have KD := Lib.hid kd
    have KR := Lib.hid kr
    have HRL := Lib.hid hrl
    have HDB := Lib.hid hdb
    clear hdb kd kr hrl hrel hrd hpk
    go_wp2_with fail
    have hpd := hp.keep (Below.refl _ W).drew
    have hXd : X < W.drew.heap.size := hXs
    have kk := KD.out _ ρ hpd
    go_region_held3 (fun w' => w'.cell? ⟨X, 1, none⟩ = some (.int .i64 F) ∧ w'.cell? ⟨X, 2, none⟩ = some (.int .i64 N))
      (first | exact ⟨c1, c2⟩ | exact ⟨e1, e2⟩ | exact ⟨g1, g2⟩)
      (first | (go_at_call 52; (with_reducible refine kk.mono ?_); rintro e w2 ⟨rfl, ρ2, hp2, hs2, hz2⟩; have kq := KR.out _ ρ2 hp2; have HX2 := (hz2 X hXd (.inl hX0)).2; have hX2 := ((hz2 X hXd (.inl hX0)).1.trans hX0); have e1 := (World.cell?_of_block HX2).trans c1; have e2 := (World.cell?_of_block HX2).trans c2) | (go_at_call 59; (with_reducible refine kq.mono ?_); rintro e w3 ⟨rfl, ρ3, hp3, hs3, hz3⟩; have HX3 := (hz3 X (Nat.lt_of_lt_of_le hXd hs2) (.inl hX2)).2; have g1 := (World.cell?_of_block HX3).trans e1; have g2 := (World.cell?_of_block HX3).trans e2))
    all_goals (go_wp2_with fail)
    all_goals go_ret
    all_goals exact ⟨rfl, d1, r1, HDB.out, HRL.out.up (by omega) (by omega), aft_two HXE.out HBW.out hXs hs2 hz2 hp3 hs3 hz3⟩
  by_cases h8 : a % 8 = 3
  · skip
    have t2 : (a % 8 == 2) = false := beq_false_of_ne (by omega)
    have t3 : (a % 8 == 3) = true := beq_iff_eq.2 h8
    obtain ⟨z, d1, r1, hdb, hrl, kd, kr⟩ := op_sync (w0 := w0) (D := D) (R := R) hrel hk hm F
    have KD := Lib.hid kd
    have KR := Lib.hid kr
    have HRL := Lib.hid hrl
    have HDB := Lib.hid hdb
    clear hdb kd kr hrl hrel hrd hpk
    go_wp2_with fail
    have hpd := hp.keep (Below.refl _ W).drew
    have hXd : X < W.drew.heap.size := hXs
    have kk := KD.out _ ρ hpd
    go_region_held3 (fun w' => w'.cell? ⟨X, 1, none⟩ = some (.int .i64 F))
      (first | exact c1 | exact e1 | exact g1)
      (first | (go_at_call 35; (with_reducible refine kk.mono ?_); rintro e w2 ⟨rfl, ρ2, hp2, hs2, hz2⟩; have kq := KR.out _ ρ2 hp2; have HX2 := (hz2 X hXd (.inl hX0)).2; have hX2 := ((hz2 X hXd (.inl hX0)).1.trans hX0); have e1 := (World.cell?_of_block HX2).trans c1) | (go_at_call 58; (with_reducible refine kq.mono ?_); rintro e w3 ⟨rfl, ρ3, hp3, hs3, hz3⟩; have HX3 := (hz3 X (Nat.lt_of_lt_of_le hXd hs2) (.inl hX2)).2; have g1 := (World.cell?_of_block HX3).trans e1))
    all_goals (go_wp2_with fail)
    all_goals go_ret
    all_goals exact ⟨rfl, d1, r1, HDB.out, HRL.out.up (by omega) (by omega), aft_two HXE.out HBW.out hXs hs2 hz2 hp3 hs3 hz3⟩
  by_cases h8 : a % 8 = 4
  · skip
    have t2 : (a % 8 == 2) = false := beq_false_of_ne (by omega)
    have t3 : (a % 8 == 3) = false := beq_false_of_ne (by omega)
    have t4 : (a % 8 == 4) = true := beq_iff_eq.2 h8
    obtain ⟨z, T, kd, kr⟩ := op_read (w0 := w0) (D := D) (R := R) hrel hk hm F
    have KD := Lib.hid kd
    have KR := Lib.hid kr
    have HRL := Lib.hid hrel
    clear kd kr hrel hrd hpk
    go_wp2_with fail
    refine (KD.out _ ρ hp).mono ?_
    rintro e w2 ⟨p2, n2, q2, rfl, ht2, hb2⟩
    have HT2 := Lib.hid ht2
    have g1 : w2.cell? ⟨X, 1, none⟩ = some (.int .i64 F) := (hb2.cell hXs).trans c1
    clear ht2
    go_wp2_with fail
    refine (KR.out _ ρ (hp.keep hb2)).mono ?_
    rintro e w3 ⟨p3, n3, q3, rfl, ht3, hb3⟩
    have cv2 := HT2.out _ hb3
    have cv3 := ht3 _ (Below.refl _ _)
    clear ht3
    go_wp2_with fail
    go_ret
    exact ⟨rfl, d, r, fun b => b, HRL.out.up (by omega) (by omega), ρ, (hp.keep hb2).keep hb3, by have := hb2.size; have := hb3.size; have := HXE.out; omega, fun g hg _ => ⟨rfl, (hb3.block g (by have := hb2.size; have := HXE.out; omega)).trans ((hb2.block g (by have := HXE.out; omega)).trans (HBW.out.block g (by have := HXE.out; omega)))⟩⟩
  by_cases h8 : a % 8 = 5
  · skip
    have t2 : (a % 8 == 2) = false := beq_false_of_ne (by omega)
    have t3 : (a % 8 == 3) = false := beq_false_of_ne (by omega)
    have t4 : (a % 8 == 4) = false := beq_false_of_ne (by omega)
    have t5 : (a % 8 == 5) = true := beq_iff_eq.2 h8
    obtain ⟨z, d1, r1, hdb, hrl, kd, kr⟩ := op_fuse (w0 := w0) (D := D) (R := R) hrel hk hm N n1
    have KD := Lib.hid kd
    have KR := Lib.hid kr
    have HRL := Lib.hid hrl
    have HDB := Lib.hid hdb
    clear hdb kd kr hrl hrel hrd hpk
    go_wp2_with fail
    have hpd := hp.keep (Below.refl _ W).drew
    have hXd : X < W.drew.heap.size := hXs
    have kk := KD.out _ ρ hpd
    go_region_held3 (fun w' => w'.cell? ⟨X, 2, none⟩ = some (.int .i64 N))
      (first | exact c2 | exact e2 | exact g2)
      (first | (go_at_call 21; (with_reducible refine kk.mono ?_); rintro e w2 ⟨rfl, ρ2, hp2, hs2, hz2⟩; have kq := KR.out _ ρ2 hp2; have HX2 := (hz2 X hXd (.inl hX0)).2; have hX2 := ((hz2 X hXd (.inl hX0)).1.trans hX0); have e2 := (World.cell?_of_block HX2).trans c2) | (go_at_call 60; (with_reducible refine kq.mono ?_); rintro e w3 ⟨rfl, ρ3, hp3, hs3, hz3⟩; have HX3 := (hz3 X (Nat.lt_of_lt_of_le hXd hs2) (.inl hX2)).2; have g2 := (World.cell?_of_block HX3).trans e2))
    all_goals (go_wp2_with fail)
    all_goals go_ret
    all_goals exact ⟨rfl, d1, r1, HDB.out, HRL.out.up (by omega) (by omega), aft_two HXE.out HBW.out hXs hs2 hz2 hp3 hs3 hz3⟩
  by_cases h8 : a % 8 = 6
  · skip
    have t2 : (a % 8 == 2) = false := beq_false_of_ne (by omega)
    have t3 : (a % 8 == 3) = false := beq_false_of_ne (by omega)
    have t4 : (a % 8 == 4) = false := beq_false_of_ne (by omega)
    have t5 : (a % 8 == 5) = false := beq_false_of_ne (by omega)
    have t6 : (a % 8 == 6) = true := beq_iff_eq.2 h8
    obtain ⟨z, d1, r1, hdb, hrl, kd, kr⟩ := op_offc (w0 := w0) (D := D) (R := R) hrel hk hm
    have KD := Lib.hid kd
    have KR := Lib.hid kr
    have HRL := Lib.hid hrl
    have HDB := Lib.hid hdb
    clear hdb kd kr hrl hrel hrd hpk
    go_wp2_with fail
    refine (KD.out _ ρ hp).mono ?_
    rintro e w2 ⟨rfl, ρ2, hp2, hs2, hz2⟩
    go_wp2_with fail
    refine (KR.out _ ρ2 hp2).mono ?_
    rintro e w3 ⟨rfl, ρ3, hp3, hs3, hz3⟩
    go_wp2_with fail
    go_ret
    exact ⟨rfl, d1, r1, HDB.out, HRL.out.up (by omega) (by omega), aft_two HXE.out HBW.out hXs hs2 hz2 hp3 hs3 hz3⟩
  by_cases h8 : a % 8 = 7
  · skip
    have t2 : (a % 8 == 2) = false := beq_false_of_ne (by omega)
    have t3 : (a % 8 == 3) = false := beq_false_of_ne (by omega)
    have t4 : (a % 8 == 4) = false := beq_false_of_ne (by omega)
    have t5 : (a % 8 == 5) = false := beq_false_of_ne (by omega)
    have t6 : (a % 8 == 6) = false := beq_false_of_ne (by omega)
    have t7 : (a % 8 == 7) = true := beq_iff_eq.2 h8
    obtain ⟨z, d1, r1, hdb, hrl, kd, kr⟩ := op_onc (w0 := w0) (D := D) (R := R) hrel hk hm pp pl pc pk hpk
    have KD := Lib.hid kd
    have KR := Lib.hid kr
    have HRL := Lib.hid hrl
    have HDB := Lib.hid hdb
    clear hdb kd kr hrl hrel hrd hpk
    go_wp2_with fail
    have hpd := hp.keep (Below.refl _ W).drew
    have hXd : X < W.drew.heap.size := hXs
    have kk := KD.out _ ρ hpd
    go_region_held3 (fun w' => w'.cell? ⟨X, 4, none⟩ = some (.slice pp pl pc))
      (first | exact c4 | exact e4 | exact g4)
      (first | (go_at_call 18; (with_reducible refine kk.mono ?_); rintro e w2 ⟨rfl, ρ2, hp2, hs2, hz2⟩; have kq := KR.out _ ρ2 hp2; have HX2 := (hz2 X hXd (.inl hX0)).2; have hX2 := ((hz2 X hXd (.inl hX0)).1.trans hX0); have e4 := (World.cell?_of_block HX2).trans c4) | (go_at_call 62; (with_reducible refine kq.mono ?_); rintro e w3 ⟨rfl, ρ3, hp3, hs3, hz3⟩; have HX3 := (hz3 X (Nat.lt_of_lt_of_le hXd hs2) (.inl hX2)).2; have g4 := (World.cell?_of_block HX3).trans e4))
    all_goals (go_wp2_with fail)
    all_goals go_ret
    all_goals exact ⟨rfl, d1, r1, HDB.out, HRL.out.up (by omega) (by omega), aft_two HXE.out HBW.out hXs hs2 hz2 hp3 hs3 hz3⟩
  · skip
    have t2 : (a % 8 == 2) = false := beq_false_of_ne (by omega)
    have t3 : (a % 8 == 3) = false := beq_false_of_ne (by omega)
    have t4 : (a % 8 == 4) = false := beq_false_of_ne (by omega)
    have t5 : (a % 8 == 5) = false := beq_false_of_ne (by omega)
    have t6 : (a % 8 == 6) = false := beq_false_of_ne (by omega)
    have t7 : (a % 8 == 7) = false := beq_false_of_ne (by omega)
    obtain ⟨z, d1, r1, hdb, hrl, kd, kr⟩ := op_write (w0 := w0) (D := D) (R := R) hrel hk hm F _ B hrd hbl' hbb
    have KD := Lib.hid kd
    have KR := Lib.hid kr
    have HRL := Lib.hid hrl
    have HDB := Lib.hid hdb
    clear hdb kd kr hrl hrel hrd hpk
    go_wp2_with fail
    have hpd := hp.keep (Below.refl _ W).drew
    have hXd : X < W.drew.heap.size := hXs
    have kk := KD.out _ ρ hpd
    go_region_held3 (fun w' => w'.cell? ⟨X, 1, none⟩ = some (.int .i64 F) ∧ w'.cell? ⟨X, 3, none⟩ = some (.slice pb B.length cb))
      (first | exact ⟨c1, c3⟩ | exact ⟨e1, e3⟩ | exact ⟨g1, g3⟩)
      (first | (go_at_call 41; (with_reducible refine kk.mono ?_); rintro e w2 ⟨rfl, ρ2, hp2, hs2, hz2⟩; have kq := KR.out _ ρ2 hp2; have HX2 := (hz2 X hXd (.inl hX0)).2; have hX2 := ((hz2 X hXd (.inl hX0)).1.trans hX0); have e1 := (World.cell?_of_block HX2).trans c1; have e3 := (World.cell?_of_block HX2).trans c3) | (go_at_call 63; (with_reducible refine kq.mono ?_); rintro e w3 ⟨rfl, ρ3, hp3, hs3, hz3⟩; have HX3 := (hz3 X (Nat.lt_of_lt_of_le hXd hs2) (.inl hX2)).2; have g1 := (World.cell?_of_block HX3).trans e1; have g3 := (World.cell?_of_block HX3).trans e3))
    all_goals (go_wp2_with fail)
    all_goals go_ret
    all_goals exact ⟨rfl, d1, r1, HDB.out, HRL.out.up (by omega) (by omega), aft_two HXE.out HBW.out hXs hs2 hz2 hp3 hs3 hz3⟩
end Go.Proofs.YtfohemgfiidokaaGreatDoor
