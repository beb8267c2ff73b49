/- Plain: Add and Compact of a vault that goes on. -/
import Derived.Test.YtfohemgfiidokaaDoorPb
namespace Go.Proofs.YtfohemgfiidokaaDoor
open Go.RowKit Go.Sort

theorem vmay_live {d : Dk} {x : Va} {ls ms : List (List Int)} (h : Live d x ls) (hm : RecOk ms) : vmayv x.broken ms = 0 := by
  unfold vmayv
  rw [h.bro, lngI_false.2 fun r hr => (hm r hr).2]
  rfl
theorem va_n (x : Va) (hb : x.broken = false) (n : Int) : ({ x with n := n, broken := false } : Va) = { x with n := n } := by cases x; simp_all
theorem pick_swap {f : Nat} (hf : f < 2) (a b : List Int) : pick f a b = pick (1 - f) b a := by
  rcases f with _ | _ | f
  · simp [pick]
  · simp [pick]
  · omega
theorem add_live {d : Dk} {x : Va} {ls : List (List Int)} {k m : Nat} (h : Live d x ls) (hz : DSz d k m) (ms : List (List Int)) (hm : RecOk ms) (hl : ls.length + ms.length ≤ 1000000) :
    (roomF d < sizeI ms ∧ d.addV x ms = (7, d, x)) ∨ (sizeI ms ≤ roomF d ∧
      ((∃ d', d.addV x ms = (0, d', { x with n := x.n + ms.length }) ∧ Live d' { x with n := x.n + ms.length } (ls ++ ms) ∧ d'.fused = d.fused ∧ d'.most = d.most) ∨
      (∃ d', d.addV x ms = (8, d', { x with broken := true }) ∧ d'.off = true ∧ d.fused = true ∧ ∀ Fd : List (List Int) → Prop, (∀ i, i ≤ ms.length → Fd (ls ++ ms.take i)) → Safe d' Fd))) := by
  have hv := vmay_live h hm
  by_cases hr : roomF d < sizeI ms
  · exact .inl ⟨hr, by unfold Dk.addV; rw [if_neg (by simp [hv]), if_pos hr]⟩
  refine .inr ⟨by omega, ?_⟩
  by_cases h0 : ms.length = 0
  · have : ms = [] := List.length_eq_zero_iff.1 h0
    subst this
    refine .inl ⟨d, ?_, ?_, rfl, rfl⟩
    · unfold Dk.addV
      rw [if_neg (by simp [hv]), if_neg hr, if_pos (show ([] : List (List Int)).length = 0 from rfl)]
      have : x.n + ((([] : List (List Int)).length : Nat) : Int) = x.n := by simp
      rw [this]
    · rw [List.append_nil]
      have : ({ x with n := x.n + ((([] : List (List Int)).length : Nat) : Int) } : Va) = x := by simp
      rw [this]; exact h
  have hA : d.addV x ms = if (seqD (addL x ms) d).1 = 0 then (0, (seqD (addL x ms) d).2, { x with n := x.n + ms.length, broken := false }) else ((seqD (addL x ms) d).1, (seqD (addL x ms) d).2, { x with broken := true }) := by
    unfold Dk.addV; rw [if_neg (by simp [hv]), if_neg hr, if_neg h0]
  have hfl := framesI_len x.gen ms x.n
  have hrb := hz.m1
  have hrm : roomF d ≤ 4194304 := by have := hz.m0; unfold roomF; omega
  obtain ⟨S, hS, hG⟩ := h.sure
  have hn := h.n
  have hall : ∀ j, ∃ i, i ≤ ms.length ∧ lookI x.file (S ++ (framesI x.gen x.n ms).take j) = some (x.gen, ls ++ ms.take i) := fun j => by
    rw [hn]; exact look_add hG h.rec_ hm h.g h.par (by omega) j
  rcases write_or h.off x.file h.file (framesI x.gen x.n ms) (by rw [hfl]; omega) with ⟨hfu, e1⟩ | e1
  · refine .inr ⟨{ d with off := true }, ?_, rfl, hfu, fun Fd hF => (h.safe (by have := hF 0 (Nat.zero_le _); simpa using this)).off true⟩
    have hq : seqD (addL x ms) d = (8, { d with off := true }) := by rw [addL, seq_stop (f := fun d => d.write x.file (framesI x.gen x.n ms)) e1]
    rw [hA, hq, if_neg (show ¬ (8 : Int) = 0 by decide)]
  rw [hS] at e1
  have o1 : (d.upd x.file ⟨S, [] ++ [.wr (framesI x.gen x.n ms)]⟩).off = false := by rw [upd_off]; exact h.off
  have f1 := upd_self d x.file ⟨S, [] ++ [.wr (framesI x.gen x.n ms)]⟩ h.file
  have g1 := upd_ne d x.file ⟨S, [] ++ [.wr (framesI x.gen x.n ms)]⟩ h.file
  have u1 := upd_fused d x.file ⟨S, [] ++ [.wr (framesI x.gen x.n ms)]⟩
  have m1 := upd_most d x.file ⟨S, [] ++ [.wr (framesI x.gen x.n ms)]⟩
  simp only [List.nil_append] at e1 o1 f1 g1 u1 m1
  generalize d.upd x.file ⟨S, [.wr (framesI x.gen x.n ms)]⟩ = d1 at *
  rcases sync_or o1 x.file h.file with ⟨hfu, e2⟩ | e2
  · refine .inr ⟨{ d1 with off := true }, ?_, rfl, by rw [← u1]; exact hfu, fun Fd hF => ?_⟩
    · have hq : seqD (addL x ms) d = (8, { d1 with off := true }) := by rw [addL, seq_go (f := fun d => d.write x.file (framesI x.gen x.n ms)) e1, seq_stop (f := fun d => d.sync x.file) e2]
      rw [hA, hq, if_neg (show ¬ (8 : Int) = 0 by decide)]
    · refine safe_one (gg := x.gen) h.file (fun a ha => ?_) (fun b hb => ?_)
      · rw [file_off, f1] at ha
        have ha' : Out ⟨(⟨S, []⟩ : Fil).s, (⟨S, []⟩ : Fil).l ++ [.wr (framesI x.gen x.n ms)]⟩ a := ha
        rcases ha'.put with ha | ⟨n, -, rfl⟩
        · rw [ha.sure]
          exact ⟨ls, h.look hG, by have := hF 0 (Nat.zero_le _); simpa using this⟩
        · obtain ⟨i, hi, hlk⟩ := hall n.toNat
          exact ⟨_, hlk, hF i hi⟩
      · rw [file_off, g1] at hb; exact h.oth b hb
  · rw [f1, stands_wr _ _ (by rw [hfl]; omega)] at e2
    refine .inl ⟨(d1.upd x.file ⟨S ++ framesI x.gen x.n ms, []⟩), ?_, ⟨by rw [upd_off]; exact o1, h.bro, h.file, ?_, h.g, h.par, h.rec_.app hm, by simpa using hl, ⟨S ++ framesI x.gen x.n ms, upd_self _ _ _ h.file, by rw [hn]; exact hG.app⟩, ?_, ?_⟩, by rw [upd_fused]; exact u1, by rw [upd_most]; exact m1⟩
    · have hq : seqD (addL x ms) d = (0, d1.upd x.file ⟨S ++ framesI x.gen x.n ms, []⟩) := by rw [addL, seq_go (f := fun d => d.write x.file (framesI x.gen x.n ms)) e1, seq_go (f := fun d => d.sync x.file) e2]; rfl
      rw [hA, hq, if_pos (show (0 : Int) = 0 from rfl), va_n x h.bro]
    · show x.n + (ms.length : Int) = ((ls ++ ms).length : Nat)
      rw [hn]; simp
    · intro b hb
      rw [show ({ x with n := x.n + (ms.length : Int) } : Va).file = x.file from rfl, upd_ne _ _ _ h.file, g1] at hb
      exact h.oth b hb
    · show (Dk.file _ (1 - x.file)).stands = []
      rw [upd_ne _ _ _ h.file, g1]; exact h.emp

theorem comp_live {d : Dk} {x : Va} {ls : List (List Int)} {k m : Nat} (h : Live d x ls) (hz : DSz d k m) (hk : k ≤ 100000000) (hm' : m ≤ 100000000) (ms : List (List Int)) (hm : RecOk ms) (hl : ms.length ≤ 1000000) :
    (4611686018427387904 ≤ x.gen ∧ d.compV x ms = (6, d, x)) ∨ (x.gen < 4611686018427387904 ∧ ((roomF d < ((44 + sizeI ms : Nat) : Int) ∧ d.compV x ms = (7, d, x)) ∨ (((44 + sizeI ms : Nat) : Int) ≤ roomF d ∧
      ((∃ d', d.compV x ms = (0, d', ⟨1 - x.file, x.gen + 1, ms.length, false⟩) ∧ Live d' ⟨1 - x.file, x.gen + 1, ms.length, false⟩ ms ∧ d'.fused = d.fused ∧ d'.most = d.most) ∨
      (∃ d', d.compV x ms = (8, d', { x with broken := true }) ∧ d'.off = true ∧ d.fused = true ∧ ∀ Fd : List (List Int) → Prop, Fd ls → Fd ms → Safe d' Fd))))) := by
  have hv := vmay_live h hm
  by_cases hg : 4611686018427387904 ≤ x.gen
  · exact .inl ⟨hg, by unfold Dk.compV; rw [if_neg (by simp [hv]), if_pos hg]⟩
  refine .inr ⟨by omega, ?_⟩
  have hem : (d.file (1 - x.file)).stands.length = 0 := by rw [h.emp]; rfl
  by_cases hr : roomF d < ((44 + sizeI ms : Nat) : Int)
  · exact .inl ⟨hr, by unfold Dk.compV; rw [if_neg (by simp [hv]), if_neg hg, if_neg (by rw [h.off]; simp), if_pos (by rw [hem]; simpa using hr)]⟩
  refine .inr ⟨by omega, ?_⟩
  have hA : d.compV x ms = if (seqD (compL x ms) d).1 = 0 then (0, (seqD (compL x ms) d).2, ⟨1 - x.file, x.gen + 1, ms.length, false⟩) else ((seqD (compL x ms) d).1, (seqD (compL x ms) d).2, { x with broken := true }) := by
    unfold Dk.compV; rw [if_neg (by simp [hv]), if_neg hg, if_neg (by rw [h.off]; simp), if_neg (by rw [hem]; simpa using hr)]
  have hsl : (compS x ms).length = 44 + sizeI ms := by rw [compS, List.length_append, headI_len, framesI_len]
  have hrm : roomF d ≤ 4194304 := by have := hz.m0; have := hz.m1; unfold roomF; omega
  have hf1 : 1 - x.file < 2 := by omega
  have hff : 1 - (1 - x.file) = x.file := by have := h.file; omega
  have hsub := sub_nat h.file
  have hpar : (x.gen + 1) % 2 = ((1 - x.file : Nat) : Int) := by have := h.par; have := h.file; omega
  have hgg : 1 ≤ x.gen + 1 ∧ x.gen + 1 ≤ 4611686018427387904 := by have := h.g; omega
  obtain ⟨S, hS, hG⟩ := h.sure
  have hlkS := h.look hG
  have hlkC : ∀ j, (j < 44 + sizeI ms → lookI (1 - x.file : Nat) ((compS x ms).take j) = none) ∧ (44 + sizeI ms ≤ j → lookI (1 - x.file : Nat) ((compS x ms).take j) = some (x.gen + 1, ms)) := fun j => look_comp hm hgg hpar (by omega) j
  have e0 : d.vcut (1 - x.file : Nat) (0 : Nat) = (0, d) := vcut_same h.off _ hf1 0 hem
  have hfulo : fullF (d.file (1 - x.file)).s (d.file (1 - x.file)).l = [] := by rw [← stands_full (hz.f (1 - x.file)) (by omega) (by omega)]; exact h.emp
  rcases write_or h.off (1 - x.file) hf1 (compS x ms) (by rw [hsl]; omega) with ⟨hfu, e1⟩ | e1
  · refine .inr ⟨{ d with off := true }, ?_, rfl, hfu, fun Fd hF _ => (h.safe hF).off true⟩
    have hq : seqD (compL x ms) d = (8, { d with off := true }) := by rw [compL, ← hsub, seq_go (f := fun d => d.vcut (1 - x.file : Nat) 0) e0, seq_stop (f := fun d => d.write (1 - x.file : Nat) (compS x ms)) e1]
    rw [hA, hq, if_neg (show ¬ (8 : Int) = 0 by decide)]
  have hz1 : DSz (d.upd (1 - x.file) ⟨(d.file (1 - x.file)).s, (d.file (1 - x.file)).l ++ [.wr (compS x ms)]⟩) (k + 1) (m + (compS x ms).length) := by
    have := hz.write (1 - x.file : Nat) (compS x ms)
    rw [e1] at this; exact this
  have o1 : (d.upd (1 - x.file) ⟨(d.file (1 - x.file)).s, (d.file (1 - x.file)).l ++ [.wr (compS x ms)]⟩).off = false := by rw [upd_off]; exact h.off
  have f1 := upd_self d (1 - x.file) ⟨(d.file (1 - x.file)).s, (d.file (1 - x.file)).l ++ [.wr (compS x ms)]⟩ hf1
  have g1 := upd_ne d (1 - x.file) ⟨(d.file (1 - x.file)).s, (d.file (1 - x.file)).l ++ [.wr (compS x ms)]⟩ hf1
  have u1 := upd_fused d (1 - x.file) ⟨(d.file (1 - x.file)).s, (d.file (1 - x.file)).l ++ [.wr (compS x ms)]⟩
  have m1 := upd_most d (1 - x.file) ⟨(d.file (1 - x.file)).s, (d.file (1 - x.file)).l ++ [.wr (compS x ms)]⟩
  rw [hff] at g1
  generalize d.upd (1 - x.file) ⟨(d.file (1 - x.file)).s, (d.file (1 - x.file)).l ++ [.wr (compS x ms)]⟩ = d1 at *
  rcases sync_or o1 (1 - x.file) hf1 with ⟨hfu, e2⟩ | e2
  · refine .inr ⟨{ d1 with off := true }, ?_, rfl, by rw [← u1]; exact hfu, fun Fd hF hF2 => ?_⟩
    · have hq : seqD (compL x ms) d = (8, { d1 with off := true }) := by rw [compL, ← hsub, seq_go (f := fun d => d.vcut (1 - x.file : Nat) 0) e0, seq_go (f := fun d => d.write (1 - x.file : Nat) (compS x ms)) e1, seq_stop (f := fun d => d.sync (1 - x.file : Nat)) e2]
      rw [hA, hq, if_neg (show ¬ (8 : Int) = 0 by decide)]
    · refine safe_of h.file fun a b ha hb => ?_
      rw [file_off, g1, hS] at ha
      rw [file_off, f1] at hb
      rw [ha.sure]
      have keep : (∀ g l2, lookI (1 - x.file : Nat) b = some (g, l2) → g < x.gen) → ∃ q g ls, pick x.file S b = some (q, g, ls) ∧ Fd ls := fun hh => ⟨_, _, _, best_pick h.file hlkS (fun g2 l2 h2 => hh g2 l2 (by rw [hsub]; exact h2)), hF⟩
      rcases hb.put with hb | ⟨n, -, rfl⟩
      · exact keep (h.oth b hb)
      · have hdone : (Chg.wr (compS x ms)).done (fullF (d.file (1 - x.file)).s (d.file (1 - x.file)).l) n = (compS x ms).take n.toNat := by rw [hfulo]; rfl
        rw [hdone] at keep ⊢
        by_cases hj : n.toNat < 44 + sizeI ms
        · exact keep fun g l2 h2 => by rw [(hlkC n.toNat).1 hj] at h2; cases h2
        · refine ⟨1 - x.file, x.gen + 1, ms, ?_, hF2⟩
          rw [pick_swap h.file]
          exact best_pick hf1 ((hlkC n.toNat).2 (by omega)) (fun g2 l2 h2 => by
            have : lookI x.file S = some (g2, l2) := by rw [← h2]; congr 1; omega
            rw [hlkS] at this; cases this; omega)
  have hst : (d1.file (1 - x.file)).stands = compS x ms := by
    rw [stands_full (hz1.f (1 - x.file)) (by omega) (by omega), f1]
    show fullF _ (_ ++ [_]) = _
    rw [full_snoc, hfulo]
    show [] ++ (compS x ms).take (Chg.units (.wr (compS x ms))).toNat = _
    rw [List.nil_append, List.take_of_length_le (by simp [Chg.units])]
  rw [hst] at e2
  have o2 : (d1.upd (1 - x.file) ⟨compS x ms, []⟩).off = false := by rw [upd_off]; exact o1
  have f2 := upd_self d1 (1 - x.file) ⟨compS x ms, []⟩ hf1
  have g2 := upd_ne d1 (1 - x.file) ⟨compS x ms, []⟩ hf1
  have u2 := upd_fused d1 (1 - x.file) ⟨compS x ms, []⟩
  have m2 := upd_most d1 (1 - x.file) ⟨compS x ms, []⟩
  rw [hff, g1, hS] at g2
  generalize d1.upd (1 - x.file) ⟨compS x ms, []⟩ = d2 at *
  have hlkF : lookI (1 - x.file : Nat) (compS x ms) = some (x.gen + 1, ms) := by
    have := (hlkC (44 + sizeI ms)).2 (Nat.le_refl _)
    rwa [List.take_of_length_le (Nat.le_of_eq hsl)] at this
  have hcf := cut_or o2 x.file h.file 0 (Nat.zero_le _)
  rcases hcf with ⟨hfu, e3⟩ | e3
  · refine .inr ⟨{ d2 with off := true }, ?_, rfl, by rw [← u1, ← u2]; exact hfu, fun Fd hF hF2 => ?_⟩
    · have hq : seqD (compL x ms) d = (8, { d2 with off := true }) := by rw [compL, ← hsub, seq_go (f := fun d => d.vcut (1 - x.file : Nat) 0) e0, seq_go (f := fun d => d.write (1 - x.file : Nat) (compS x ms)) e1, seq_go (f := fun d => d.sync (1 - x.file : Nat)) e2, seq_stop (f := fun d => d.cut x.file 0) e3]
      rw [hA, hq, if_neg (show ¬ (8 : Int) = 0 by decide)]
    · refine safe_one (f := 1 - x.file) (gg := x.gen + 1) hf1 (fun a ha => ?_) (fun b hb => ?_)
      · rw [file_off, f2] at ha; rw [ha.sure]; exact ⟨ms, hlkF, hF2⟩
      · rw [hff] at hb ⊢
        rw [file_off, g2] at hb
        rw [hb.sure]
        intro g l2 h2
        rw [hlkS] at h2; cases h2; omega
  · have g3 := upd_ne d2 x.file ⟨(d2.file x.file).s, (d2.file x.file).l ++ [.ct (0 : Nat)]⟩ h.file
    refine .inl ⟨(d2.upd x.file ⟨(d2.file x.file).s, (d2.file x.file).l ++ [.ct (0 : Nat)]⟩), ?_, ⟨by rw [upd_off]; exact o2, rfl, hf1, rfl, hgg, hpar, hm, hl, ⟨compS x ms, by rw [g3]; exact f2, ⟨ms.length, Nat.le_refl _, rfl⟩⟩, ?_, ?_⟩, by rw [upd_fused]; exact u2.trans u1, by rw [upd_most]; exact m2.trans m1⟩
    · have hq : seqD (compL x ms) d = (0, d2.upd x.file ⟨(d2.file x.file).s, (d2.file x.file).l ++ [.ct (0 : Nat)]⟩) := by rw [compL, ← hsub, seq_go (f := fun d => d.vcut (1 - x.file : Nat) 0) e0, seq_go (f := fun d => d.write (1 - x.file : Nat) (compS x ms)) e1, seq_go (f := fun d => d.sync (1 - x.file : Nat)) e2, seq_go (f := fun d => d.cut x.file 0) e3]; rfl
      rw [hA, hq, if_pos (show (0 : Int) = 0 from rfl)]
    · intro b hb g l2 h2
      have hb' : Out ((d2.upd x.file ⟨(d2.file x.file).s, (d2.file x.file).l ++ [.ct (0 : Nat)]⟩).file (1 - (1 - x.file))) b := hb
      have h2' : lookI (1 - (1 - x.file) : Nat) b = some (g, l2) := h2
      rw [hff] at hb' h2'
      rw [upd_self _ _ _ h.file] at hb'
      rcases hb'.put with hb2 | ⟨n, -, rfl⟩
      · rw [g2] at hb2
        rw [hb2.sure, hlkS] at h2'; cases h2'
        show x.gen < x.gen + 1
        omega
      · have : lookI x.file [] = some (g, l2) := h2'
        rw [look_nil] at this; cases this
    · show (Dk.file _ (1 - (1 - x.file))).stands = []
      rw [hff, upd_self _ _ _ h.file, g2]; rfl
end Go.Proofs.YtfohemgfiidokaaDoor
