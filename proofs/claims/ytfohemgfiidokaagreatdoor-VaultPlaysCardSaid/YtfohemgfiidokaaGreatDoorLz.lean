/- The iterator over the frames' records: whole's closure. What vault's look tells of a file. -/
import Derived.Shelf.Abstract
import Derived.Shelf.RegionOpen
import Derived.OwnWalkIn
import Derived.TacticsInMore
import Derived.LoopNIn
import Derived.LoopIn
import Derived.Sort.QuietIn
import Derived.Sort.CutIn
import Derived.Test.YtfohemgfiidokaaGreatDoorYk
namespace Go.Proofs.YtfohemgfiidokaaGreatDoor
open Go.RowKit Go.Sort
attribute [local go_sem] Oper.semAt_some

def boxLen (w : World) (b : Nat) : Nat := match w.cell? ⟨b, 0, none⟩ with
  | some v => sliceLen v
  | none => 0
theorem nxt_short {g k : Int} {b : List Int} (h : b.length < 36) : nxt g k b = none := by unfold nxt; rw [if_pos h]
theorem wholeF_none {g k : Int} {b : List Int} (h : nxt g k b = none) (f : Nat) : wholeF g f k b = [] := by
  cases f with
  | zero => rfl
  | succ f => rw [wholeF, h]

set_option maxRecDepth 100000 in
set_option maxHeartbeats 2000000 in
theorem whole1_c (n l bx bg n₀ : Nat) (g : Int) (w0 : World) (hn0 : w0.heap.size = n₀) (J : List (List Int) → World → Prop) (Kp : World → World → Prop) (n₁ N : Nat)
    (hbx : n₀ ≤ bx) (hne : bg ≠ bx) (hN : N ≤ 100000000) (ht : KTab w0)
    (hJa : ∀ s A B, J s A → RowKit.Below A.heap.size A B → J s B) (hJc : ∀ s A v, J s A → J s (A.setCell ⟨bx, 0, none⟩ v))
    (hKp : ∀ A B, Kp A B → Below n₀ A B ∧ B.heap[bx]? = A.heap[bx]? ∧ B.heap[bg]? = A.heap[bg]?)
    (W : World) (hn1 : n₁ ≤ W.heap.size) (v : Value) (b : List Int) (hb0 : Below n₀ w0 W) (hv : RdB w0 v b) (hb : Bytes b) (hbl : b.length ≤ N) (cx : W.cell? ⟨bx, 0, none⟩ = some v) (zx : W.frozen? ⟨bx, 0, none⟩ = false) (cg : W.cell? ⟨bg, 0, none⟩ = some (.int .u64 g)) (h0 : J [] W)
    (hY : ∀ pre r v W1, J pre W1 → RowO W1 n₁ v r → pre ++ [r] <+: wholeI g b → YieldAt Fence.wide (n - 1) Tryz.prog l #[v] W1 fun e W' => e = .returned (.bool true) ∧ J (pre ++ [r]) W' ∧ Kp W1 W') :
    CallsIn Fence.wide n Tryz.prog 95 #[.func (.yield l) #[] #[], .pointer (some ⟨bx, 0, none⟩), .pointer (some ⟨bg, 0, none⟩)] W fun e W' => (∃ v, e = .returned v) ∧ J (wholeI g b) W' := by
  refine callsIn_of_wp Tryz.func95 rfl trivial ?_ rfl
  simp only [Tryz.ntmps95, List.size_toArray, List.length_cons, List.length_nil, Nat.reduceAdd, Nat.reduceSub, Array.replicate_succ, Array.replicate_zero, List.push_toArray, List.append_toArray, List.nil_append, List.cons_append]
  gi_wp2
  gi_loopw [4] (fun ks wr => ∃ (k : Nat) (pre : List (List Int)) (v : Value) (ys : List Int) (f : Nat), ks = .int .i64 k ∧ wr.cell? ⟨bx, 0, none⟩ = some v ∧ wr.frozen? ⟨bx, 0, none⟩ = false ∧ RdB w0 v ys ∧ Bytes ys ∧ k + ys.length ≤ N ∧ ys.length ≤ f ∧ wholeI g b = pre ++ wholeF g f k ys ∧ J pre wr ∧ wr.cell? ⟨bg, 0, none⟩ = some (.int .u64 g) ∧ Below n₀ w0 wr ∧ n₁ ≤ wr.heap.size) (fun _ wr => boxLen wr bx)
  case atStart => exact ⟨0, [], v, b, b.length, rfl, cx, zx, hv, hb, by omega, Nat.le_refl _, rfl, h0, cg, hb0, hn1⟩
  case round =>
    clear hb0 hv hb hbl cx zx cg h0
    obtain ⟨k, pre, v, ys, f, rfl, cx, zx, hv, hyb, hkl, hyf, hrs, hJ, cg, hb, hJn⟩ := hrel
    obtain ⟨p, cap, rfl, hcap⟩ := hv.shape
    by_cases h36 : ys.length < 36
    · have hw := wholeF_none (nxt_short h36 (g := g) (k := k)) f
      rw [hw, List.append_nil] at hrs
      have hlt : ¬ (36 : Int) ≤ ys.length := by omega
      have HR := Lib.hid hrs; have HJ := Lib.hid hJ
      clear hrs hJ hw
      gi_wp2
      go_end0
      exact ⟨⟨_, rfl⟩, by rw [HR.out]; exact HJ.out⟩
    · have hge : (36 : Int) ≤ ys.length := by omega
      have hvw := hv.keep (by rw [hn0]; exact hb)
      rcases hv with ⟨-, h2⟩ | ⟨a, g0, o, cap', h1, h2, h3, h4⟩
      · rw [h2] at h36; simp at h36
      cases h1
      have hp := h3 (by omega)
      subst hp
      have hrd : ∀ j z c, j + z ≤ ys.length → z ≤ c → RdB w0 (.slice (some ⟨g0, o + j, none⟩) z c) ((ys.drop j).take z) := fun j z c h5 h6 => rd_part h4 h5 h6
      have hrw : ∀ j z c, j + z ≤ ys.length → z ≤ c → ∀ V, Below n₀ w0 V → RdB V (.slice (some ⟨g0, o + j, none⟩) z c) ((ys.drop j).take z) := fun j z c h5 h6 V hV => (hrd j z c h5 h6).keep (by rw [hn0]; exact hV)
      have hy4 := hyb.take 4
      have hbd := ofBytes_bd _ hy4
      have h4l : (ys.take 4).length = 4 := by rw [List.length_take]; omega
      rw [h4l] at hbd
      have hnum := number_c (.slice (some ⟨g0, o, none⟩) 4 cap) (ys.take 4) wr (by have := hrw 0 4 cap (by omega) (by omega) wr hb; rwa [Nat.add_zero, List.drop_zero] at this) hy4 (by omega)
      have hnx : nxt g k ys = if 32768 < ofBytes (ys.take 4) ∨ (ys.length : Int) < ofBytes (ys.take 4) + 36 then none
        else if fchk g k (ys.take ((ofBytes (ys.take 4)).toNat + 4)) = (ys.drop ((ofBytes (ys.take 4)).toNat + 4)).take 32 then some ((ys.take ((ofBytes (ys.take 4)).toNat + 4)).drop 4, ys.drop ((ofBytes (ys.take 4)).toNat + 36)) else none := by
        conv => lhs; unfold nxt
        rw [if_neg h36]
      generalize ofBytes (ys.take 4) = nn at *
      obtain ⟨z, rfl⟩ := Int.eq_ofNat_of_zero_le hbd.1
      rw [Int.toNat_natCast] at hnx
      have hz4 : (z : Int) < 4294967296 := by have := hbd.2; omega
      have w36 : IntKind.u64.wrap ((z : Int) + 36) = z + 36 := by rw [IntKind.wrap_u64]; omega
      have wln : IntKind.u64.wrap (ys.length : Int) = ys.length := by rw [IntKind.wrap_u64]; omega
      clear hbd h4l hy4
      by_cases hbad : 32768 < (z : Int) ∨ (ys.length : Int) < z + 36
      · rw [if_pos hbad] at hnx
        rw [wholeF_none hnx, List.append_nil] at hrs
        have HR := Lib.hid hrs; have HJ := Lib.hid hJ
        clear hrs hJ hnx hrw hrd h4 hvw
        by_cases hb1 : 32768 < (z : Int)
        · clear hbad
          gi_wp2_with (refine ⟨trivial, fun hd => by simp [Fence.wide] at hd, ?_⟩; gi_at_call 70; refine (callsIn_wide.2 hnum).mono ?_; rintro e w1 ⟨rfl, hw1⟩; obtain rfl := hw1.symm)
          refine bodyPost_ret (results_none rfl _ _ _) rfl ?_
          exact ⟨⟨_, rfl⟩, by rw [HR.out]; exact HJ.out⟩
        · have hb2 : (ys.length : Int) < z + 36 := by omega
          clear hbad
          gi_wp2_with (refine ⟨trivial, fun hd => by simp [Fence.wide] at hd, ?_⟩; gi_at_call 70; refine (callsIn_wide.2 hnum).mono ?_; rintro e w1 ⟨rfl, hw1⟩; obtain rfl := hw1.symm)
          refine bodyPost_ret (results_none rfl _ _ _) rfl ?_
          exact ⟨⟨_, rfl⟩, by rw [HR.out]; exact HJ.out⟩
      · rw [if_neg hbad] at hnx
        have hz1 : (z : Int) ≤ 32768 := by omega
        have hz2 : (z : Int) + 36 ≤ ys.length := by omega
        clear hbad
        have hz3 : z + 36 ≤ ys.length := by omega
        have w4 : IntKind.u64.wrap ((z : Int) + 4) = z + 4 := by rw [IntKind.wrap_u64]; omega
        have hs := hrw 0 (z + 4) cap (by omega) (by omega)
        have hc := hrw (z + 4) 32 (cap - (z + 4)) (by omega) (by omega)
        rw [Nat.add_zero, List.drop_zero] at hs
        have hsb := hyb.take (z + 4)
        have hcb := (hyb.drop (z + 4)).take 32
        have hsl : (ys.take (z + 4)).length = z + 4 := by rw [List.length_take]; omega
        have hr4 : RdB w0 (.slice (some ⟨g0, o + 4, none⟩) z (cap - 4)) ((ys.take (z + 4)).drop 4) := by
          have := hrd 4 z (cap - 4) (by omega) (by omega)
          rwa [show (ys.drop 4).take z = (ys.take (z + 4)).drop 4 by rw [List.drop_take, Nat.add_sub_cancel]] at this
        have hrb := hsb.drop 4
        have hrl : ((ys.take (z + 4)).drop 4).length = z := by rw [List.length_drop, hsl]; omega
        generalize ys.take (z + 4) = S at *
        generalize (ys.drop (z + 4)).take 32 = C at *
        have hfr := fun V (hV : Below n₀ w0 V) => framed_c g k (.slice (some ⟨g0, o, none⟩) (z + 4) cap) S V (by omega) (by omega) (hs V hV) hsb (by omega) (ht.below hV (by rw [← hn0]; exact ht.lt))
        have hqb : Bytes (fchk g k S) := chk_bytes _
        have hn1 : decide ((32768 : Int) < z) = false := decide_eq_false (by omega)
        have hn2 : decide ((ys.length : Int) < z + 36) = false := decide_eq_false (by omega)
        have HSL := Lib.hid hsl
        have HRL := Lib.hid hrl
        clear hsl hrl hz1 hz2
        generalize fchk g k S = q at *
        by_cases hqc : q = C
        · rw [if_pos hqc] at hnx
          subst hqc
          obtain ⟨f', rfl⟩ : ∃ f', f = f' + 1 := ⟨f - 1, by omega⟩
          rw [wholeF, hnx] at hrs
          dsimp only at hrs
          rw [← List.singleton_append, ← List.append_assoc] at hrs
          generalize S.drop 4 = r at *
          have HR := Lib.hid hrs; have HJ := Lib.hid hJ
          have heq := fun V v (h1 : RdB V v q) (h2 : RowKit.Below n₀ w0 V) => equal_c v (.slice (some ⟨g0, o + (z + 4), none⟩) 32 (cap - (z + 4))) q q V h1 (hc V h2) hqb hcb
          rw [show (q == q) = true from by simp] at heq
          have hcl := fun V (h2 : RowKit.Below n₀ w0 V) => sclone_c (.slice (some ⟨g0, o + 4, none⟩) z (cap - 4)) r V (hr4.keep (by rw [hn0]; exact h2)) (by rw [HRL.out]; omega)
          have HF := Lib.hid hfr; have HE := Lib.hid heq; have HC := Lib.hid hcl
          have HT := Lib.hid (show RdB w0 (.slice (some ⟨g0, o + (z + 36), none⟩) (ys.length - (z + 36)) (cap - (z + 36))) (ys.drop (z + 36)) from by
            have := hrd (z + 36) (ys.length - (z + 36)) (cap - (z + 36)) (by omega) (by omega)
            rwa [List.take_of_length_le (by rw [List.length_drop]; exact Nat.le_refl _)] at this)
          clear hrs hJ hnx hrw hrd h4 hvw hfr heq hs hc hr4 hcl
          have hbw' : n₀ ≤ wr.drew.heap.size := by rw [← hn0]; exact hb.size
          have hbd : RowKit.Below n₀ w0 wr.drew := hb.drew
          have hc4 : ¬ cap = 4 := by omega
          have lx := block_lt_of_cell cx
          have lg := block_lt_of_cell cg
          gi_upto_region 5 with (refine ⟨trivial, fun hd => by simp [Fence.wide] at hd, ?_⟩; gi_at_call 70; refine (callsIn_wide.2 hnum).mono ?_; rintro e w1 ⟨rfl, hw1⟩; obtain rfl := hw1.symm)
          gi_region
          all_goals gi_wp2_with (first
            | (refine ⟨trivial, fun hd => by simp [Fence.wide] at hd, ?_⟩; gi_at_call 81; refine (callsIn_wide.2 (HF.out _ hbd)).mono ?_; rintro e w1 ⟨v1, rfl, hr1, hb1⟩; have hb2 := hbd.trans (hb1.mono hbw'))
            | (refine ⟨trivial, fun hd => by simp [Fence.wide] at hd, ?_⟩; gi_at_call 68; refine (callsIn_wide.2 (HE.out _ _ hr1 hb2)).mono ?_; rintro e w2 ⟨rfl, hw2⟩; obtain rfl := hw2.symm)
            | (refine ⟨trivial, fun hd => by simp [Fence.wide] at hd, ?_⟩; gi_at_call 96; refine (callsIn_wide.2 (HC.out _ hb2)).mono ?_; rintro e w3 ⟨v3, rfl, hr3, hb3⟩; have hb4 := bel_call hb1 hb3; have hJ3 := hJa _ _ _ HJ.out (bel_call (RowKit.Below.refl _ wr).drew hb4); obtain ⟨fn, tm, asg, bo, hy, hR⟩ := hY pre r v3 w3 hJ3 (hr3.down (Nat.le_trans hJn hb1.size)) (by rw [HR.out]; exact List.prefix_append _ _)))
          refine ⟨fun hd => by simp [Fence.wide] at hd, ?_⟩
          refine hR.mono ?_
          rintro e W3 ⟨rfl, hJ5, hk5⟩
          obtain ⟨k1, k2, k3⟩ := hKp _ _ hk5
          have cx3 : W3.cell? ⟨bx, 0, none⟩ = some (.slice (some ⟨g0, o, none⟩) ys.length cap) := (World.cell?_of_block k2).trans ((hb4.cell lx).trans cx)
          have zx3 : W3.frozen? ⟨bx, 0, none⟩ = false := (World.frozen?_of_block k2).trans ((World.frozen?_of_block (hb4.block bx lx)).trans zx)
          have cg3 : W3.cell? ⟨bg, 0, none⟩ = some (.int .u64 g) := (World.cell?_of_block k3).trans ((hb4.cell lg).trans cg)
          have hb5 : RowKit.Below n₀ w0 W3 := (hb2.trans (hb3.mono (Nat.le_trans hbw' hb1.size))).trans k1
          have hbl0 : boxLen wr bx = ys.length := by unfold boxLen; rw [cx]; rfl
          have hJn3 : n₁ ≤ W3.heap.size := Nat.le_trans (Nat.le_trans hJn hb4.size) k1.size
          clear cx zx cg hb2 hb3 hb4 hy hR k1 k2 k3 hk5
          gi_wp2_with fail
          have HT2 : RdB w0 (.slice (if cap = z + 36 then some ⟨g0, o, none⟩ else some ⟨g0, o + (z + 36), none⟩) (ys.length - (z + 36)) (cap - (z + 36))) (ys.drop (z + 36)) := by
            by_cases hce : cap = z + 36
            · rw [if_pos hce]
              have hy0 : ys.drop (z + 36) = [] := List.drop_eq_nil_iff.2 (by omega)
              rw [hy0, show ys.length - (z + 36) = 0 by omega]
              exact .inr ⟨_, g0, o, _, rfl, by simp, fun h => by simp at h, fun j hj => by simp at hj⟩
            · rw [if_neg hce]; exact HT.out
          generalize (if cap = z + 36 then some (⟨g0, o, none⟩ : Addr) else some ⟨g0, o + (z + 36), none⟩) = A at *
          refine ⟨⟨k + 1, pre ++ [r], _, ys.drop (z + 36), f', by go_num, set_same cx3, set_frozen.trans zx3, HT2, hyb.drop _, by rw [List.length_drop]; omega, by rw [List.length_drop]; omega, ?_, hJc _ _ _ hJ5, ?_, hb5.setCell (p := ⟨bx, 0, none⟩) hbx _, by rw [set_size]; exact hJn3⟩, ?_⟩
          · rw [HR.out, Int.natCast_add]; rfl
          · rw [World.cell?_of_block (set_heap hne)]; exact cg3
          · rw [hbl0]
            unfold boxLen
            rw [set_same cx3]
            simp only [sliceLen]
            omega
        · rw [if_neg hqc] at hnx
          rw [wholeF_none hnx, List.append_nil] at hrs
          have HR := Lib.hid hrs; have HJ := Lib.hid hJ
          have heq := fun V v (h1 : RdB V v q) (h2 : Below n₀ w0 V) => equal_c v (.slice (some ⟨g0, o + (z + 4), none⟩) 32 (cap - (z + 4))) q C V h1 (hc V h2) hqb hcb
          rw [show (q == C) = false from by rw [beq_eq_false_iff_ne]; exact hqc] at heq
          have HF := Lib.hid hfr; have HE := Lib.hid heq
          clear hrs hJ hnx hrw hrd h4 hvw hfr heq hs hc hr4 hqc
          have hbw' : n₀ ≤ wr.drew.heap.size := by rw [← hn0]; exact hb.size
          gi_upto_region 5 with (refine ⟨trivial, fun hd => by simp [Fence.wide] at hd, ?_⟩; gi_at_call 70; refine (callsIn_wide.2 hnum).mono ?_; rintro e w1 ⟨rfl, hw1⟩; obtain rfl := hw1.symm)
          have hbd : RowKit.Below n₀ w0 wr.drew := hb.drew
          gi_region
          all_goals gi_wp2_with (first
            | (refine ⟨trivial, fun hd => by simp [Fence.wide] at hd, ?_⟩; gi_at_call 81; refine (callsIn_wide.2 (HF.out _ hbd)).mono ?_; rintro e w1 ⟨v1, rfl, hr1, hb1⟩; have hb2 := hbd.trans (hb1.mono hbw'); have hb3 := bel_call (RowKit.Below.refl _ wr).drew hb1)
            | (refine ⟨trivial, fun hd => by simp [Fence.wide] at hd, ?_⟩; gi_at_call 68; refine (callsIn_wide.2 (HE.out _ _ hr1 hb2)).mono ?_; rintro e w2 ⟨rfl, rfl⟩))
          all_goals (refine ⟨trivial, ?_⟩; gi_step; gi_guarded; refine ⟨fun _ _ => trivial, ?_⟩)
          all_goals gi_wp2_with fail
          all_goals refine bodyPost_ret (results_none rfl _ _ _) rfl ?_
          all_goals exact ⟨⟨_, rfl⟩, by rw [HR.out]; exact hJa _ _ _ HJ.out hb3⟩
end Go.Proofs.YtfohemgfiidokaaGreatDoor
namespace Go.Proofs.YtfohemgfiidokaaGreatDoor
open Go.RowKit Go.Sort

/-- rows of bytes that the call has laid, from block B on -/
def FrL (w : World) (B : Nat) (v : Value) (ls : List (List Int)) : Prop :=
  ∃ vs : List Value, w.ownsRow B 40 1 v ls.length vs ∧ ∀ j (h : j < ls.length), ∃ u, vs[j]? = some u ∧ RowO w B u ls[j]
def fnd0 : Value := .agg #[.int .i64 0, .int .u64 0, .slice none 0 0, .int .i64 0]

set_option maxRecDepth 100000 in
theorem look_a (f : Int) (v : Value) (b : List Int) (w : World) (hv : RdB w v b) (h44 : b.length < 44) :
    Calls Tryz.prog 29 #[.int .i64 f, v] w fun e w' => e = .returned fnd0 ∧ RowKit.Below w.heap.size w w' := by
  obtain ⟨p, cap, rfl, hcap⟩ := hv.shape
  have hq : decide ((b.length : Int) < 44) = true := decide_eq_true (by omega)
  clear hv
  go_enter Tryz.func29, Tryz.ntmps29
  go_upto_region 1 with fail
  go_region
  all_goals go_wp2
  refine bodyPost_ret (v := fnd0) ?_ rfl ?_
  · simp [results, Tryz.f29, go_sem]
    rfl
  · exact ⟨rfl, (bel_alloc (RowKit.Below.refl _ _) _).drew⟩

/-- the parts of a file of 44 bytes and more -/
structure Parts (w : World) (v : Value) (b : List Int) (g o cap : Nat) : Prop where
  val : v = .slice (some ⟨g, o, none⟩) b.length cap
  cap : b.length ≤ cap
  rd : ∀ j z c, j + z ≤ b.length → z ≤ c → ∀ V, RowKit.Below w.heap.size w V → RdB V (.slice (some ⟨g, o + j, none⟩) z c) ((b.drop j).take z)
theorem RdB.parts {w : World} {v : Value} {b : List Int} (h : RdB w v b) (hl : 0 < b.length) : ∃ g o cap, Parts w v b g o cap := by
  rcases h with ⟨-, h2⟩ | ⟨a, g, o, cap, h1, h2, h3, h4⟩
  · rw [h2] at hl; simp at hl
  · have := h3 hl
    subst this
    exact ⟨g, o, cap, h1, h2, fun j z c h5 h6 V hV => (rd_part h4 h5 h6).keep hV⟩

set_option maxRecDepth 100000 in
set_option maxHeartbeats 1600000 in
theorem look_b (f : Int) (v : Value) (b : List Int) (w : World) (hv : RdB w v b) (hbb : Bytes b) (h44 : 44 ≤ b.length) (hl : b.length ≤ 10000000) (hk : KTab w) (hc : chk (b.take 12) ≠ (b.drop 12).take 32) :
    Calls Tryz.prog 29 #[.int .i64 f, v] w fun e w' => e = .returned fnd0 ∧ RowKit.Below w.heap.size w w' := by
  obtain ⟨g, o, cap, hp⟩ := hv.parts (by omega)
  obtain rfl := hp.val
  have hcap := hp.cap
  have hq : decide ((b.length : Int) < 44) = false := decide_eq_false (by omega)
  have h12 := hp.rd 0 12 cap (by omega) (by omega)
  rw [Nat.add_zero, List.drop_zero] at h12
  have h32 := hp.rd 12 32 (cap - 12) (by omega) (by omega)
  have hch := fun V (hV : RowKit.Below w.heap.size w V) => check_c (.slice (some ⟨g, o, none⟩) 12 cap) (b.take 12) V (h12 V hV) (hbb.take 12) (by rw [List.length_take]; omega) (hk.call hV)
  have heq := fun V v (h1 : RdB V v (chk (b.take 12))) (hV : RowKit.Below w.heap.size w V) => equal_c v (.slice (some ⟨g, o + 12, none⟩) 32 (cap - 12)) _ _ V h1 (h32 V hV) (chk_bytes _) ((hbb.drop 12).take 32)
  rw [show (chk (b.take 12) == (b.drop 12).take 32) = false by rw [beq_eq_false_iff_ne]; exact hc] at heq
  generalize chk (b.take 12) = q at *
  have HC := Lib.hid hch; have HE := Lib.hid heq
  have hcn : ¬ cap = 12 := by omega
  have hx1 : (12 : Int) ≤ cap := by omega
  have hx2 : (44 : Int) ≤ cap := by omega
  have hge : (44 : Int) ≤ b.length := by omega
  have hn44 : 44 ≤ b.length := h44
  clear hch heq h12 h32 hp hc hv hk h44
  go_enter Tryz.func29, Tryz.ntmps29
  go_upto_region 1 with fail
  refine wp_gen (fun W => RowV 82 w.heap.size [.int .i64 0, .int .u64 0, .slice none 0 0, .int .i64 0] W ∧ RowKit.Below w.heap.size w W) ⟨heap_alloc_new w _, bel_alloc (RowKit.Below.refl _ _) _⟩ ?_
  rintro W ⟨hrow, hbw⟩
  have hb0 : RowKit.Below w.heap.size w W.drew := hbw.drew
  go_region_held3 (fun _ => True) (trivial) (first
    | (go_at_call 69; (with_reducible refine (HC.out _ hb0).mono ?_); rintro e w1 ⟨v1, rfl, hr1, hb1⟩; have hb2 := bel_call hb0 hb1)
    | (go_at_call 68; (with_reducible refine (HE.out _ _ hr1 hb2).mono ?_); rintro e w2 ⟨rfl, rfl⟩))
  have hrow1 : RowV 82 w.heap.size [.int .i64 0, .int .u64 0, .slice none 0 0, .int .i64 0] w2 := RowV.call (w := W.drew) hrow hb1
  have c0 := hrow1.cell 0
  have c1 := hrow1.cell 1
  have c2 := hrow1.cell 2
  have c3 := hrow1.cell 3
  have z := hrow1.frozen
  go_wp2
  refine bodyPost_ret (v := fnd0) ?_ rfl ?_
  · have hr5 := (((hrow1.set 0 (.int .i64 0)).set 1 (.int .u64 0)).set 2 (.slice none 0 0)).set 3 (.int .i64 0)
    have d0 := hr5.cell 0
    have d1 := hr5.cell 1
    have d2 := hr5.cell 2
    have d3 := hr5.cell 3
    simp only [List.set_cons_zero, List.set_cons_succ, List.getElem?_cons_zero, List.getElem?_cons_succ] at d0 d1 d2 d3
    simp [results, Tryz.f29, go_sem, d0, d1, d2, d3]
    rfl
  · exact ⟨rfl, (((hb2.setCell (p := ⟨w.heap.size, 0, none⟩) (Nat.le_refl _) _).setCell (p := ⟨w.heap.size, 1, none⟩) (Nat.le_refl _) _).setCell (p := ⟨w.heap.size, 2, none⟩) (Nat.le_refl _) _).setCell (p := ⟨w.heap.size, 3, none⟩) (Nat.le_refl _) _⟩

set_option maxRecDepth 100000 in
set_option maxHeartbeats 1600000 in
theorem look_c (f : Int) (v : Value) (b : List Int) (w : World) (hv : RdB w v b) (hbb : Bytes b) (h44 : 44 ≤ b.length) (hl : b.length ≤ 10000000) (hk : KTab w) (hc : chk (b.take 12) = (b.drop 12).take 32)
    (hbad : ofBytes (b.take 8) < 1 ∨ 4611686018427387904 < ofBytes (b.take 8) ∨ ofBytes (b.take 8) % 2 ≠ f) :
    Calls Tryz.prog 29 #[.int .i64 f, v] w fun e w' => e = .returned fnd0 ∧ RowKit.Below w.heap.size w w' := by
  obtain ⟨g, o, cap, hp⟩ := hv.parts (by omega)
  obtain rfl := hp.val
  have hcap := hp.cap
  have hq : decide ((b.length : Int) < 44) = false := decide_eq_false (by omega)
  have h12 := hp.rd 0 12 cap (by omega) (by omega)
  have h8 := hp.rd 0 8 cap (by omega) (by omega)
  rw [Nat.add_zero, List.drop_zero] at h12 h8
  have h32 := hp.rd 12 32 (cap - 12) (by omega) (by omega)
  have hch := fun V (hV : RowKit.Below w.heap.size w V) => check_c (.slice (some ⟨g, o, none⟩) 12 cap) (b.take 12) V (h12 V hV) (hbb.take 12) (by rw [List.length_take]; omega) (hk.call hV)
  have heq := fun V v (h1 : RdB V v (chk (b.take 12))) (hV : RowKit.Below w.heap.size w V) => equal_c v (.slice (some ⟨g, o + 12, none⟩) 32 (cap - 12)) _ _ V h1 (h32 V hV) (chk_bytes _) ((hbb.drop 12).take 32)
  rw [show (chk (b.take 12) == (b.drop 12).take 32) = true by rw [beq_iff_eq]; exact hc] at heq
  have hnum := fun V (hV : RowKit.Below w.heap.size w V) => number_c (.slice (some ⟨g, o, none⟩) 8 cap) (b.take 8) V (h8 V hV) (hbb.take 8) (by rw [List.length_take]; omega)
  have hbd := ofBytes_bd _ (hbb.take 8)
  rw [show (b.take 8).length = 8 by rw [List.length_take]; omega] at hbd
  generalize chk (b.take 12) = q at *
  generalize ofBytes (b.take 8) = gg at *
  have HC := Lib.hid hch; have HE := Lib.hid heq; have HN := Lib.hid hnum
  have hcn : ¬ cap = 12 := by omega
  have hx1 : (12 : Int) ≤ cap := by omega
  have hx2 : (44 : Int) ≤ cap := by omega
  have hge : (44 : Int) ≤ b.length := by omega
  have hx3 : (8 : Int) ≤ cap := by omega
  have hn44 : 44 ≤ b.length := h44
  have HB := Lib.hid hbad; have HD := Lib.hid hbd
  clear hch heq h12 h32 h8 hp hc hv hk h44 hnum hbad hbd
  go_enter Tryz.func29, Tryz.ntmps29
  go_upto_region 1 with fail
  refine wp_gen (fun W => RowV 82 w.heap.size [.int .i64 0, .int .u64 0, .slice none 0 0, .int .i64 0] W ∧ RowKit.Below w.heap.size w W) ⟨heap_alloc_new w _, bel_alloc (RowKit.Below.refl _ _) _⟩ ?_
  rintro W ⟨hrow, hbw⟩
  have hb0 : RowKit.Below w.heap.size w W.drew := hbw.drew
  go_region_held3 (fun _ => True) (trivial) (first
    | (go_at_call 69; (with_reducible refine (HC.out _ hb0).mono ?_); rintro e w1 ⟨v1, rfl, hr1, hb1⟩; have hb2 := bel_call hb0 hb1)
    | (go_at_call 68; (with_reducible refine (HE.out _ _ hr1 hb2).mono ?_); rintro e w2 ⟨rfl, rfl⟩))
  have hrow1 : RowV 82 w.heap.size [.int .i64 0, .int .u64 0, .slice none 0 0, .int .i64 0] w2 := RowV.call (w := W.drew) hrow hb1
  go_upto_region 4 with (go_at_call 70; (with_reducible refine (HN.out _ hb2).mono ?_); rintro e w3 ⟨rfl, hw3⟩; obtain rfl := hw3.symm)
  refine wp_gen (fun W3 => RowV 82 w2.heap.size [.int .i64 f, .int .u64 gg, .slice none 0 0, .int .i64 44] W3 ∧ RowV 82 w.heap.size [.int .i64 0, .int .u64 0, .slice none 0 0, .int .i64 0] W3 ∧ RowKit.Below w.heap.size w W3) ⟨heap_alloc_new w2 _, hrow1.alloc _, bel_alloc hb2 _⟩ ?_
  clear hrow hrow1 hr1 hb1
  rintro W3 ⟨r0, r1, hb3⟩
  have x1 := r0.cell 1
  simp only [List.getElem?_cons_zero, List.getElem?_cons_succ] at x1
  have c0 := r1.cell 0
  have c1 := r1.cell 1
  have c2 := r1.cell 2
  have c3 := r1.cell 3
  have z := r1.frozen
  by_cases h1 : gg < 1
  · have hd1 : decide (gg < 1) = true := decide_eq_true h1
    go_wp2
    refine bodyPost_ret (v := fnd0) ?_ rfl ?_
    · have hr5 := (((r1.set 0 (.int .i64 0)).set 1 (.int .u64 0)).set 2 (.slice none 0 0)).set 3 (.int .i64 0)
      have d0 := hr5.cell 0
      have d1 := hr5.cell 1
      have d2 := hr5.cell 2
      have d3 := hr5.cell 3
      simp only [List.set_cons_zero, List.set_cons_succ, List.getElem?_cons_zero, List.getElem?_cons_succ] at d0 d1 d2 d3
      simp [results, Tryz.f29, go_sem, d0, d1, d2, d3]
      rfl
    · exact ⟨rfl, (((hb3.setCell (p := ⟨w.heap.size, 0, none⟩) (Nat.le_refl _) _).setCell (p := ⟨w.heap.size, 1, none⟩) (Nat.le_refl _) _).setCell (p := ⟨w.heap.size, 2, none⟩) (Nat.le_refl _) _).setCell (p := ⟨w.heap.size, 3, none⟩) (Nat.le_refl _) _⟩
  have hd1 : decide (gg < 1) = false := decide_eq_false h1
  by_cases h2 : 4611686018427387904 < gg
  · have hd2 : decide (4611686018427387904 < gg) = true := decide_eq_true h2
    go_wp2
    refine bodyPost_ret (v := fnd0) ?_ rfl ?_
    · have hr5 := (((r1.set 0 (.int .i64 0)).set 1 (.int .u64 0)).set 2 (.slice none 0 0)).set 3 (.int .i64 0)
      have d0 := hr5.cell 0
      have d1 := hr5.cell 1
      have d2 := hr5.cell 2
      have d3 := hr5.cell 3
      simp only [List.set_cons_zero, List.set_cons_succ, List.getElem?_cons_zero, List.getElem?_cons_succ] at d0 d1 d2 d3
      simp [results, Tryz.f29, go_sem, d0, d1, d2, d3]
      rfl
    · exact ⟨rfl, (((hb3.setCell (p := ⟨w.heap.size, 0, none⟩) (Nat.le_refl _) _).setCell (p := ⟨w.heap.size, 1, none⟩) (Nat.le_refl _) _).setCell (p := ⟨w.heap.size, 2, none⟩) (Nat.le_refl _) _).setCell (p := ⟨w.heap.size, 3, none⟩) (Nat.le_refl _) _⟩
  have hd2 : decide (4611686018427387904 < gg) = false := decide_eq_false h2
  have h3 : (gg % 2 == f) = false := by
    rw [beq_eq_false_iff_ne]
    rcases HB.out with h | h | h
    · exact absurd h h1
    · exact absurd h h2
    · exact h
  have hw2 : IntKind.i64.wrap (gg % 2) = gg % 2 := by rw [IntKind.wrap_i64]; omega
  have hg0 : 0 ≤ gg := by omega
  clear h1 h2
  go_wp2
  refine bodyPost_ret (v := fnd0) ?_ rfl ?_
  · have hr5 := (((r1.set 0 (.int .i64 0)).set 1 (.int .u64 0)).set 2 (.slice none 0 0)).set 3 (.int .i64 0)
    have d0 := hr5.cell 0
    have d1 := hr5.cell 1
    have d2 := hr5.cell 2
    have d3 := hr5.cell 3
    simp only [List.set_cons_zero, List.set_cons_succ, List.getElem?_cons_zero, List.getElem?_cons_succ] at d0 d1 d2 d3
    simp [results, Tryz.f29, go_sem, d0, d1, d2, d3]
    rfl
  · exact ⟨rfl, (((hb3.setCell (p := ⟨w.heap.size, 0, none⟩) (Nat.le_refl _) _).setCell (p := ⟨w.heap.size, 1, none⟩) (Nat.le_refl _) _).setCell (p := ⟨w.heap.size, 2, none⟩) (Nat.le_refl _) _).setCell (p := ⟨w.heap.size, 3, none⟩) (Nat.le_refl _) _⟩
end Go.Proofs.YtfohemgfiidokaaGreatDoor
