/- Plain: a vault of which a file is cut, or a byte of it turned. -/
import Derived.Test.YtfohemgfiidokaaDoorPe
namespace Go.Proofs.YtfohemgfiidokaaDoor
open Go.RowKit Go.Sort

theorem size_len2 : ∀ ls : List (List Int), 36 * ls.length ≤ sizeI ls
  | [] => by simp [sizeI]
  | r :: t => by have := size_len2 t; simp only [sizeI, List.length_cons]; omega
/-- Open of a disk without a fuse that has no sound text: a new vault -/
theorem begin_unf2 {d : Dk} {k m : Nat} (hoff : d.off = false) (hfu : d.fused = false) (hz : DSz d k m) (hk : k ≤ 90000000) (hm : m ≤ 90000000) (h0 : (d.file 0).stands = []) (hout : ∀ b, Out (d.file 0) b → ∀ g l2, lookI (0 : Nat) b = some (g, l2) → g < 1) (hmost : 44 ≤ d.most) (hb : bestN d 2 = none) :
    ∃ d', d.openV = (0, d', some (⟨1, 1, 0, false⟩, [])) ∧ Live d' ⟨1, 1, 0, false⟩ [] ∧ d'.fused = false ∧ d'.most = d.most ∧ d'.file 1 = ⟨headI 1 0, []⟩ := by
  have step1 : ∃ d1, d.vcut (1 : Nat) (0 : Nat) = (0, d1) ∧ d1.off = false ∧ d1.fused = false ∧ d1.most = d.most ∧ d1.file 0 = d.file 0 ∧ (d1.file 1).stands = [] ∧ DSz d1 (k + 1) m := by
    have hz1 := hz.vcut (1 : Nat) (0 : Nat)
    rcases vcut_unf hoff hfu 1 (by omega) 0 (Nat.zero_le _) with ⟨hl, h⟩ | h
    · rw [h] at hz1
      exact ⟨d, h, hoff, hfu, rfl, rfl, List.length_eq_zero_iff.1 hl, hz1⟩
    · rw [h] at hz1
      exact ⟨_, h, by rw [upd_off]; exact hoff, by rw [upd_fused]; exact hfu, upd_most _ _ _, by rw [show (0 : Nat) = 1 - 1 from rfl, upd_ne _ _ _ (by omega)], by rw [upd_self _ _ _ (by omega), stands_cutn (hz.f 1) (by omega) (by omega)]; rfl, hz1⟩
  obtain ⟨d1, e1, o1, u1, m1, f1, s1, z1⟩ := step1
  have e2 : d1.vcut (0 : Nat) (0 : Nat) = (0, d1) := vcut_same o1 0 (by omega) 0 (by rw [f1, h0]; rfl)
  have hl : (headI 1 0).length = 44 := headI_len 1 0
  have e3 := write_unf o1 u1 1 (by omega) (headI 1 0) (by
    rw [room_split d1 1 (by omega), s1, show (1 - 1 : Nat) = 0 from rfl, f1, h0, hl, m1]
    show ((44 : Nat) : Int) ≤ max 0 (d.most - (([] : List Int).length : Nat) - (([] : List Int).length : Nat))
    simp; omega)
  have o2 : (d1.upd 1 ⟨(d1.file 1).s, (d1.file 1).l ++ [.wr (headI 1 0)]⟩).off = false := by rw [upd_off]; exact o1
  have u2 : (d1.upd 1 ⟨(d1.file 1).s, (d1.file 1).l ++ [.wr (headI 1 0)]⟩).fused = false := by rw [upd_fused]; exact u1
  have m2 : (d1.upd 1 ⟨(d1.file 1).s, (d1.file 1).l ++ [.wr (headI 1 0)]⟩).most = d.most := by rw [upd_most]; exact m1
  have f2 : (d1.upd 1 ⟨(d1.file 1).s, (d1.file 1).l ++ [.wr (headI 1 0)]⟩).file 0 = d.file 0 := by rw [show (0 : Nat) = 1 - 1 from rfl, upd_ne _ _ _ (by omega)]; exact f1
  have s2 : ((d1.upd 1 ⟨(d1.file 1).s, (d1.file 1).l ++ [.wr (headI 1 0)]⟩).file 1).stands = headI 1 0 := by
    rw [upd_self _ _ _ (by omega), stands_put (z1.f 1) (by omega) (by omega) _ (by rw [hl]; omega), s1]; rfl
  generalize d1.upd 1 ⟨(d1.file 1).s, (d1.file 1).l ++ [.wr (headI 1 0)]⟩ = d2 at *
  have e4 := sync_unf o2 u2 1 (by omega)
  rw [s2] at e4
  have hq : d.begin = (0, d2.upd 1 ⟨headI 1 0, []⟩) := by
    unfold Dk.begin beginL
    rw [seq_go (f := fun d => d.vcut 1 0) e1, seq_go (f := fun d => d.vcut 0 0) e2, seq_go (f := fun d => d.write 1 (headI 1 0)) e3, seq_go (f := fun d => d.sync 1) e4]; rfl
  refine ⟨d2.upd 1 ⟨headI 1 0, []⟩, ?_, ⟨by rw [upd_off]; exact o2, rfl, by show 1 < 2; omega, rfl, by show (1 : Int) ≤ 1 ∧ (1 : Int) ≤ 4611686018427387904; omega, rfl, fun r hr => by simp at hr, by simp, ⟨headI 1 0, upd_self _ _ _ (by omega), 0, Nat.zero_le _, by simp [framesI]⟩, ?_, ?_⟩, by rw [upd_fused]; exact u2, by rw [upd_most]; exact m2, upd_self _ _ _ (by omega)⟩
  · unfold Dk.openV
    rw [if_neg (by rw [hoff]; simp), hb]
    dsimp only
    rw [hq, if_pos (show (0 : Int) = 0 from rfl)]
  · intro b hb g l2 h
    rw [show (1 - (⟨1, 1, 0, false⟩ : Va).file) = 1 - 1 from rfl, upd_ne _ _ _ (by omega), show (1 - 1 : Nat) = 0 from rfl, f2] at hb
    exact hout b hb g l2 h
  · show (Dk.file _ (1 - 1)).stands = []
    rw [upd_ne _ _ _ (by omega), show (1 - 1 : Nat) = 0 from rfl, f2]; exact h0
/-- what Add leaves of its file -/
theorem add_file {d : Dk} {x : Va} {ls : List (List Int)} {k m : Nat} (h : Live d x ls) (hfu : d.fused = false) (hz : DSz d k m) (ms : List (List Int)) (hm : RecOk ms) (hr : sizeI ms ≤ roomF d) (h0 : ms.length ≠ 0) {S : List Int} (hS : d.file x.file = ⟨S, []⟩) :
    (d.addV x ms).2.1.file x.file = ⟨S ++ framesI x.gen x.n ms, []⟩ ∧ (d.addV x ms).2.2.file = x.file ∧ (d.addV x ms).2.2.gen = x.gen := by
  have hv := vmay_live h hm
  have hA : d.addV x ms = if (seqD (addL x ms) d).1 = 0 then (0, (seqD (addL x ms) d).2, { x with n := x.n + ms.length, broken := false }) else ((seqD (addL x ms) d).1, (seqD (addL x ms) d).2, { x with broken := true }) := by
    unfold Dk.addV; rw [if_neg (by simp [hv]), if_neg (by omega), if_neg h0]
  have hfl := framesI_len x.gen ms x.n
  have hrm : roomF d ≤ 4194304 := by have := hz.m0; have := hz.m1; unfold roomF; omega
  have e1 := write_unf h.off hfu x.file h.file (framesI x.gen x.n ms) (by rw [hfl]; omega)
  rw [hS] at e1
  have o1 : (d.upd x.file ⟨S, [] ++ [.wr (framesI x.gen x.n ms)]⟩).off = false := by rw [upd_off]; exact h.off
  have u1 : (d.upd x.file ⟨S, [] ++ [.wr (framesI x.gen x.n ms)]⟩).fused = false := by rw [upd_fused]; exact hfu
  have f1 := upd_self d x.file ⟨S, [] ++ [.wr (framesI x.gen x.n ms)]⟩ h.file
  simp only [List.nil_append] at e1 o1 f1 u1
  generalize d.upd x.file ⟨S, [.wr (framesI x.gen x.n ms)]⟩ = d1 at *
  have e2 := sync_unf o1 u1 x.file h.file
  rw [f1, stands_wr _ _ (by rw [hfl]; omega)] at e2
  have hq : seqD (addL x ms) d = (0, d1.upd x.file ⟨S ++ framesI x.gen x.n ms, []⟩) := by rw [addL, seq_go (f := fun d => d.write x.file (framesI x.gen x.n ms)) e1, seq_go (f := fun d => d.sync x.file) e2]; rfl
  rw [hA, hq, if_pos (show (0 : Int) = 0 from rfl)]
  exact ⟨upd_self _ _ _ h.file, rfl, rfl⟩
/-- the records that a text has -/
def recs (t : List Int) : List (List Int) := match lookI 1 t with
  | none => []
  | some (_, l) => l
theorem recs_size {t : List Int} (ht : Bytes t) : recs t = [] ∨ 44 + sizeI (recs t) ≤ t.length := by
  unfold recs
  split
  · exact .inl rfl
  · rename_i h; exact .inr (look_size ht h)
theorem recs_bytes {t : List Int} (ht : Bytes t) : RecOk (recs t) := by
  unfold recs
  split
  · intro r hr; simp at hr
  · rename_i h; exact (look_inv ht h).2.1
/-- its file is cut to nothing and another text is written there -/
theorem spoil {d : Dk} {x : Va} {ls : List (List Int)} {k m : Nat} (h : Live d x ls) (hx : x.file = 1) (hg : x.gen = 1) (hfu : d.fused = false) (hdg : DG d k m) (hk : k ≤ 80000000) (hm : m ≤ 80000000) (hmo : d.most = 32768) (t : List Int) (ht : Bytes t) (htl : t.length ≤ 10000) :
    (d.cut 1 0).1 = 0 ∧ ((d.cut 1 0).2.write 1 t).1 = 0 ∧ ∃ d' x', ((d.cut 1 0).2.write 1 t).2.openV = (0, d', some (x', recs t)) ∧ Live d' x' (recs t) ∧ d'.fused = false ∧ d'.most = 32768 := by
  obtain ⟨S, hS, hG⟩ := h.sure
  have hem := h.emp
  have hot := h.oth
  rw [hx] at hS hem hot
  have hot' : ∀ b, Out (d.file 0) b → ∀ g l2, lookI (0 : Nat) b = some (g, l2) → g < 1 := fun b hb g l2 e => by have := hot b hb g l2 e; omega
  have e1 : d.cut (1 : Nat) (0 : Nat) = (0, d.upd 1 ⟨(d.file 1).s, (d.file 1).l ++ [.ct (0 : Nat)]⟩) := by
    rcases cut_or h.off 1 (by omega) 0 (Nat.zero_le _) with ⟨e, -⟩ | e
    · rw [hfu] at e; cases e
    · exact e
  have z1 := hdg.sz.cut (1 : Nat) (0 : Nat)
  have b1 := hdg.by_.cut (1 : Nat) (0 : Nat)
  have s1 := stands_cutn (hdg.sz.f 1) (by omega) (by omega) 0
  have e1' : d.cut 1 0 = (0, d.upd 1 ⟨(d.file 1).s, (d.file 1).l ++ [.ct (0 : Nat)]⟩) := e1
  rw [e1] at z1 b1
  rw [e1']
  have o1 : (d.upd 1 ⟨(d.file 1).s, (d.file 1).l ++ [.ct (0 : Nat)]⟩).off = false := by rw [upd_off]; exact h.off
  have u1 : (d.upd 1 ⟨(d.file 1).s, (d.file 1).l ++ [.ct (0 : Nat)]⟩).fused = false := by rw [upd_fused]; exact hfu
  have m1 : (d.upd 1 ⟨(d.file 1).s, (d.file 1).l ++ [.ct (0 : Nat)]⟩).most = 32768 := by rw [upd_most]; exact hmo
  have f1 : (d.upd 1 ⟨(d.file 1).s, (d.file 1).l ++ [.ct (0 : Nat)]⟩).file 1 = ⟨(d.file 1).s, (d.file 1).l ++ [.ct (0 : Nat)]⟩ := upd_self _ _ _ (by omega)
  have g1 : (d.upd 1 ⟨(d.file 1).s, (d.file 1).l ++ [.ct (0 : Nat)]⟩).file 0 = d.file 0 := upd_ne d 1 _ (by omega)
  rw [← f1] at s1
  simp only at z1 b1 ⊢
  generalize d.upd 1 ⟨(d.file 1).s, (d.file 1).l ++ [.ct (0 : Nat)]⟩ = d1 at *
  have s1' : (d1.file 1).stands = [] := by rw [s1]; rfl
  have hem0 : (d.file 0).stands = [] := hem
  have e2 : d1.write (1 : Nat) t = (0, d1.upd 1 ⟨(d1.file 1).s, (d1.file 1).l ++ [.wr t]⟩) := write_unf o1 u1 1 (by omega) t (by
    rw [room_split d1 1 (by omega), s1', show (1 - 1 : Nat) = 0 from rfl, g1, hem0, m1]
    simp; omega)
  have e2' : d1.write 1 t = (0, d1.upd 1 ⟨(d1.file 1).s, (d1.file 1).l ++ [.wr t]⟩) := e2
  have z2 := z1.write (1 : Nat) t
  have b2 := b1.write (1 : Nat) t ht
  have s2 := stands_put (z1.f 1) (by omega) (by omega) t (by omega)
  rw [e2] at z2 b2
  rw [e2']
  have o2 : (d1.upd 1 ⟨(d1.file 1).s, (d1.file 1).l ++ [.wr t]⟩).off = false := by rw [upd_off]; exact o1
  have u2 : (d1.upd 1 ⟨(d1.file 1).s, (d1.file 1).l ++ [.wr t]⟩).fused = false := by rw [upd_fused]; exact u1
  have m2 : (d1.upd 1 ⟨(d1.file 1).s, (d1.file 1).l ++ [.wr t]⟩).most = 32768 := by rw [upd_most]; exact m1
  have f2 : (d1.upd 1 ⟨(d1.file 1).s, (d1.file 1).l ++ [.wr t]⟩).file 1 = ⟨(d1.file 1).s, (d1.file 1).l ++ [.wr t]⟩ := upd_self _ _ _ (by omega)
  have g2 : (d1.upd 1 ⟨(d1.file 1).s, (d1.file 1).l ++ [.wr t]⟩).file 0 = d.file 0 := (upd_ne d1 1 _ (by omega)).trans g1
  rw [← f2, s1', List.nil_append] at s2
  simp only at z2 b2 ⊢
  generalize d1.upd 1 ⟨(d1.file 1).s, (d1.file 1).l ++ [.wr t]⟩ = d2 at *
  refine ⟨trivial, trivial, ?_⟩
  have hbest : bestN d2 2 = updI none 1 (lookI 1 t) := by
    rw [best_two, show d2.f0.stands = [] by rw [show d2.f0 = d2.file 0 from rfl, g2]; exact hem0, show d2.f1.stands = t from s2]
    unfold best2
    rw [look_nil]; rfl
  have hrc : recs t = match lookI 1 t with
    | none => []
    | some (_, l) => l := rfl
  cases hlk : lookI 1 t with
  | none =>
    rw [hlk] at hbest hrc
    obtain ⟨d', q1, q2, q3, q4, -⟩ := begin_unf2 o2 u2 z2 (by omega) (by omega) (by rw [g2]; exact hem0) (by rw [g2]; exact hot') (by rw [m2]; omega) hbest
    rw [hrc]
    exact ⟨d', _, q1, q2, q3, by rw [q4, m2]⟩
  | some p =>
    obtain ⟨g, l⟩ := p
    have hp := (look_par hlk).1
    have hb2 : bestN d2 2 = some (1, g, l) := by rw [hbest, hlk]; exact upd_yes (show (0 : Int) < g by omega)
    have hsz := look_size ht hlk
    have hln : l.length ≤ 1000000 := by have := size_len2 l; omega
    rw [hlk] at hrc
    obtain ⟨d', q1, q2, q3, q4⟩ := open_unf o2 u2 z2 (by omega) (by omega) hb2 (b2.stands 1) hln (fun b hb g2' l2 e => by
      rw [show (1 - 1 : Nat) = 0 from rfl, g2] at hb
      have := hot' b hb g2' l2 e
      omega)
    rw [hrc]
    exact ⟨d', _, q1, q2, q3, by rw [q4, m2]⟩
/-- a beginning of frames, by how many are whole -/
theorem frames_cutn (g : Int) (ls : List (List Int)) (k : Int) (j i : Nat) (h : RecOk ls) (hi : i ≤ ls.length) (h1 : sizeI (ls.take i) ≤ j) (h2 : i < ls.length → j < sizeI (ls.take (i + 1))) :
    ∃ t, (framesI g k ls).take j = framesI g k (ls.take i) ++ t ∧ nxt g (k + i) t = none := by
  have e := framesI_append g (ls.take i) (ls.drop i) k
  rw [List.take_append_drop] at e
  have hl : (framesI g k (ls.take i)).length = sizeI (ls.take i) := framesI_len g _ k
  have htl : (ls.take i).length = i := by rw [List.length_take]; omega
  rw [e, List.take_append, List.take_of_length_le (by omega), hl, htl]
  refine ⟨_, rfl, ?_⟩
  by_cases hlt : i < ls.length
  · have hd : ls.drop i = ls[i] :: ls.drop (i + 1) := List.drop_eq_getElem_cons hlt
    have hr := (h ls[i] (List.getElem_mem hlt)).2
    have h3 := h2 hlt
    rw [List.take_succ_eq_append_getElem hlt, sizeI_append] at h3
    simp only [sizeI] at h3
    rw [hd]
    simp only [framesI]
    rw [List.take_append_of_le_length (by rw [frameI_len]; omega)]
    exact nxt_cut g _ ls[i] _ hr (by omega)
  · rw [List.drop_eq_nil_of_le (by omega)]
    simp only [framesI, List.take_nil]
    exact nxt_nil _ _
/-- the records of a text that is cut -/
theorem recs_cut (ls : List (List Int)) (h : RecOk ls) (j i : Nat) (hi : i ≤ ls.length) (h1 : i = 0 ∨ 44 + sizeI (ls.take i) ≤ j) (h2 : i < ls.length → j < 44 + sizeI (ls.take (i + 1))) :
    recs ((headI 1 0 ++ framesI 1 0 ls).take j) = ls.take i := by
  unfold recs
  by_cases hj : j < 44
  · have hi0 : i = 0 := by omega
    have hl : ((headI 1 0 ++ framesI 1 0 ls).take j).length < 44 := by rw [List.length_take]; omega
    have : lookI 1 ((headI 1 0 ++ framesI 1 0 ls).take j) = none := by unfold lookI; rw [if_pos hl]
    rw [this, hi0]; rfl
  · rw [List.take_append, headI_len, List.take_of_length_le (by rw [headI_len]; omega)]
    obtain ⟨t, h3, h4⟩ := frames_cutn 1 ls 0 (j - 44) i h hi (by rcases h1 with rfl | h1; simp [sizeI]; omega) (fun hlt => by have := h2 hlt; omega)
    have h5 := whole_frames 1 (ls.take i) 0 t (h.take i) (by rw [show ((ls.take i).length : Int) = i by rw [List.length_take]; omega]; exact h4)
    rw [h3, look_head 1 1 0 _ (by omega) (by omega) (by omega)]
    show (match (if ((wholeI 1 (framesI 1 0 (ls.take i) ++ t)).length : Int) < 0 then none else some ((1 : Int), wholeI 1 (framesI 1 0 (ls.take i) ++ t))) with
      | none => []
      | some (_, l) => l) = ls.take i
    rw [if_neg (by omega)]
    exact h5
end Go.Proofs.YtfohemgfiidokaaDoor
