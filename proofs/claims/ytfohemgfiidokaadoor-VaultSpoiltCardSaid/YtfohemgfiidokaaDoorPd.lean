/- Plain: Open of a disk without a fuse; a disk's room. -/
import Derived.Test.YtfohemgfiidokaaDoorPc
import Derived.Test.YtfohemgfiidokaaDoorYv
namespace Go.Proofs.YtfohemgfiidokaaDoor
open Go.RowKit Go.Sort

theorem FSz.snoc {F : Fil} {k m : Nat} (h : FSz F k m) (c : Chg) : FSz ⟨F.s, F.l ++ [c]⟩ (k + 1) (m + c.size) := by
  refine ⟨?_, ?_⟩
  · show F.s.length + sizes (F.l ++ [c]) ≤ _
    rw [sizes_snoc]; have := h.1; omega
  · show (F.l ++ [c]).length ≤ _
    have := h.2
    simp; omega
theorem stands_cutn {F : Fil} {k m : Nat} (h : FSz F k m) (hk : k ≤ 100000000) (hm : m ≤ 100000000) (n : Nat) : (⟨F.s, F.l ++ [.ct n]⟩ : Fil).stands = F.stands.take n := by
  rw [stands_full (h.snoc (.ct n)) (by omega) (by show m + 0 ≤ _; omega), stands_full h (by omega) (by omega)]
  show fullF F.s (F.l ++ [.ct n]) = _
  rw [full_snoc]
  show (fullF F.s F.l).take ((n : Nat) : Int).toNat = _
  rw [Int.toNat_natCast]
theorem stands_put {F : Fil} {k m : Nat} (h : FSz F k m) (hk : k ≤ 100000000) (hm : m ≤ 100000000) (b : List Int) (hb : b.length ≤ 100000000) : (⟨F.s, F.l ++ [.wr b]⟩ : Fil).stands = F.stands ++ b := by
  rw [stands_full (h.snoc (.wr b)) (by omega) (by show m + b.length ≤ _; omega), stands_full h (by omega) (by omega)]
  show fullF F.s (F.l ++ [.wr b]) = _
  rw [full_snoc]
  show fullF F.s F.l ++ b.take (b.length : Int).toNat = _
  rw [List.take_of_length_le (by simp)]
theorem vcut_unf {d : Dk} (hoff : d.off = false) (hfu : d.fused = false) (f : Nat) (hf : f < 2) (n : Nat) (hn : n ≤ (d.file f).stands.length) : ((d.file f).stands.length = n ∧ d.vcut f n = (0, d)) ∨ d.vcut f n = (0, d.upd f ⟨(d.file f).s, (d.file f).l ++ [.ct n]⟩) := by
  rcases vcut_or hoff f hf n hn with ⟨h, -⟩ | h
  · rw [hfu] at h; cases h
  · exact h
theorem sync_unf {d : Dk} (hoff : d.off = false) (hfu : d.fused = false) (f : Nat) (hf : f < 2) : d.sync f = (0, d.upd f ⟨(d.file f).stands, []⟩) := by
  rcases sync_or hoff f hf with ⟨h, -⟩ | h
  · rw [hfu] at h; cases h
  · exact h
theorem write_unf {d : Dk} (hoff : d.off = false) (hfu : d.fused = false) (f : Nat) (hf : f < 2) (b : List Int) (hr : (b.length : Int) ≤ roomF d) : d.write f b = (0, d.upd f ⟨(d.file f).s, (d.file f).l ++ [.wr b]⟩) := by
  rcases write_or hoff f hf b hr with ⟨h, -⟩ | h
  · rw [hfu] at h; cases h
  · exact h
/-- Open of a disk without a fuse that has a sound text -/
theorem open_unf {d : Dk} {k m : Nat} (hoff : d.off = false) (hfu : d.fused = false) (hz : DSz d k m) (hk : k ≤ 90000000) (hm : m ≤ 90000000) {f : Nat} {g : Int} {ls : List (List Int)} (hb : bestN d 2 = some (f, g, ls)) (hby : Bytes (d.file f).stands) (hlen : ls.length ≤ 1000000)
    (hoth : ∀ b, Out (d.file (1 - f)) b → ∀ g2 l2, lookI (1 - f : Nat) b = some (g2, l2) → g2 < g) :
    ∃ d', d.openV = (0, d', some (⟨f, g, ls.length, false⟩, ls)) ∧ Live d' ⟨f, g, ls.length, false⟩ ls ∧ d'.fused = false ∧ d'.most = d.most := by
  obtain ⟨hf, hlk⟩ := best_mem d 2 f g ls hb
  obtain ⟨hG, hok, hg, hp⟩ := look_inv hby hlk
  have hsz := look_size hby hlk
  have hnil : ∀ g2 l2, lookI (1 - f : Nat) [] = some (g2, l2) → g2 < g := fun g2 l2 h => by rw [look_nil] at h; cases h
  have hopen : d.openV = if (seqD (openL f (44 + sizeI ls)) d).1 = 0 then (0, (seqD (openL f (44 + sizeI ls)) d).2, some (⟨f, g, ls.length, false⟩, ls)) else ((seqD (openL f (44 + sizeI ls)) d).1, (seqD (openL f (44 + sizeI ls)) d).2, none) := by
    unfold Dk.openV
    rw [if_neg (by rw [hoff]; simp), hb]
  have hf1 : 1 - f < 2 := by omega
  have hff : 1 - (1 - f) = f := by omega
  have step1 : ∃ d1, d.vcut f (44 + sizeI ls : Nat) = (0, d1) ∧ d1.off = false ∧ d1.fused = false ∧ d1.most = d.most ∧ d1.file (1 - f) = d.file (1 - f) ∧ (d1.file f).stands = (d.file f).stands.take (44 + sizeI ls) := by
    rcases vcut_unf hoff hfu f hf (44 + sizeI ls) hsz with ⟨hl, h⟩ | h
    · exact ⟨d, h, hoff, hfu, rfl, rfl, (List.take_of_length_le (Nat.le_of_eq hl)).symm⟩
    · exact ⟨_, h, by rw [upd_off]; exact hoff, by rw [upd_fused]; exact hfu, upd_most _ _ _, upd_ne _ _ _ hf, by rw [upd_self _ _ _ hf]; exact stands_cutn (hz.f f) (by omega) (by omega) _⟩
  obtain ⟨d1, e1, o1, u1, m1, f1, s1⟩ := step1
  have e2 := sync_unf o1 u1 f hf
  rw [s1] at e2
  have d2o : (d1.upd f ⟨(d.file f).stands.take (44 + sizeI ls), []⟩).off = false := by rw [upd_off]; exact o1
  have d2f : (d1.upd f ⟨(d.file f).stands.take (44 + sizeI ls), []⟩).file f = ⟨(d.file f).stands.take (44 + sizeI ls), []⟩ := upd_self _ _ _ hf
  have d2g : (d1.upd f ⟨(d.file f).stands.take (44 + sizeI ls), []⟩).file (1 - f) = d.file (1 - f) := by rw [upd_ne _ _ _ hf]; exact f1
  have d2u : (d1.upd f ⟨(d.file f).stands.take (44 + sizeI ls), []⟩).fused = false := by rw [upd_fused]; exact u1
  have d2m : (d1.upd f ⟨(d.file f).stands.take (44 + sizeI ls), []⟩).most = d.most := by rw [upd_most]; exact m1
  generalize d1.upd f ⟨(d.file f).stands.take (44 + sizeI ls), []⟩ = d2 at *
  have live : ∀ d3 : Dk, d3.off = false → d3.file f = ⟨(d.file f).stands.take (44 + sizeI ls), []⟩ → (∀ b, Out (d3.file (1 - f)) b → Out (d.file (1 - f)) b ∨ b = []) → (d3.file (1 - f)).stands = [] → Live d3 ⟨f, g, ls.length, false⟩ ls := fun d3 q1 q2 q3 q4 =>
    ⟨q1, rfl, hf, rfl, hg, hp, hok, hlen, ⟨_, q2, hG⟩, fun b hb => by
      rcases q3 b hb with h | rfl
      · exact hoth b h
      · exact hnil, q4⟩
  rcases vcut_unf d2o d2u (1 - f) hf1 0 (Nat.zero_le _) with ⟨hl, h3⟩ | h3
  · refine ⟨d2, ?_, live d2 d2o d2f (fun b hb => by rw [d2g] at hb; exact .inl hb) (List.length_eq_zero_iff.1 hl), d2u, d2m⟩
    have hq : seqD (openL f (44 + sizeI ls)) d = (0, d2) := by rw [openL, seq_go (f := fun d => d.vcut f (44 + sizeI ls : Nat)) e1, seq_go (f := fun d => d.sync f) e2, seq_go (f := fun d => d.vcut (1 - (f : Int)) 0) (by rw [← sub_nat hf]; exact h3)]; rfl
    rw [hopen, hq, if_pos (show (0 : Int) = 0 from rfl)]
  · refine ⟨(d2.upd (1 - f) ⟨(d2.file (1 - f)).s, (d2.file (1 - f)).l ++ [.ct (0 : Nat)]⟩), ?_, live (d2.upd (1 - f) ⟨(d2.file (1 - f)).s, (d2.file (1 - f)).l ++ [.ct (0 : Nat)]⟩) (by rw [upd_off]; exact d2o) (by have := upd_ne d2 (1 - f) ⟨(d2.file (1 - f)).s, (d2.file (1 - f)).l ++ [.ct (0 : Nat)]⟩ hf1; rw [hff] at this; rw [this]; exact d2f) (fun b hb => ?_) ?_, by rw [upd_fused]; exact d2u, by rw [upd_most]; exact d2m⟩
    · have hq : seqD (openL f (44 + sizeI ls)) d = (0, d2.upd (1 - f) ⟨(d2.file (1 - f)).s, (d2.file (1 - f)).l ++ [.ct (0 : Nat)]⟩) := by rw [openL, seq_go (f := fun d => d.vcut f (44 + sizeI ls : Nat)) e1, seq_go (f := fun d => d.sync f) e2, seq_go (f := fun d => d.vcut (1 - (f : Int)) 0) (by rw [← sub_nat hf]; exact h3)]; rfl
      rw [hopen, hq, if_pos (show (0 : Int) = 0 from rfl)]
    · rw [upd_self _ _ _ hf1] at hb
      rcases hb.put with hb | ⟨n, -, rfl⟩
      · rw [d2g] at hb; exact .inl hb
      · exact .inr rfl
    · rw [upd_self _ _ _ hf1, d2g]
      rw [stands_cutn (hz.f (1 - f)) (by omega) (by omega)]; rfl
theorem best_live {d : Dk} {x : Va} {ls : List (List Int)} (h : Live d x ls) : bestN d 2 = some (x.file, x.gen, ls) := by
  obtain ⟨S, hS, hG⟩ := h.sure
  have hl := h.look hG
  have hf := h.file
  have ho := h.oth _ (out_stands _)
  rw [best_two]
  have hS0 : (d.file x.file).stands = S := by rw [hS]; rfl
  have e : x.file = 0 ∨ x.file = 1 := by omega
  rcases e with e | e
  · rw [e] at hl ho hS0 ⊢
    exact best_left (by rw [← hS0] at hl; exact hl) ho
  · rw [e] at hl ho hS0 ⊢
    exact best_right (by rw [← hS0] at hl; exact hl) ho
/-- Open beside a vault that goes on -/
theorem open_live {d : Dk} {x : Va} {ls : List (List Int)} {k m : Nat} (h : Live d x ls) (hfu : d.fused = false) (hz : DSz d k m) (hk : k ≤ 90000000) (hm : m ≤ 90000000) (hby : DBy d) :
    ∃ d', d.openV = (0, d', some (⟨x.file, x.gen, ls.length, false⟩, ls)) ∧ Live d' ⟨x.file, x.gen, ls.length, false⟩ ls ∧ d'.fused = false ∧ d'.most = d.most :=
  open_unf h.off hfu hz hk hm (best_live h) (hby.stands _) h.len h.oth
/-- Open of a disk without a fuse that has no sound text: a new vault -/
theorem begin_unf {d : Dk} {k m : Nat} (hoff : d.off = false) (hfu : d.fused = false) (hz : DSz d k m) (hk : k ≤ 90000000) (hm : m ≤ 90000000) (h0 : d.f0 = ⟨[], []⟩) (hmost : 44 ≤ d.most) (hb : bestN d 2 = none) :
    ∃ d', d.openV = (0, d', some (⟨1, 1, 0, false⟩, [])) ∧ Live d' ⟨1, 1, 0, false⟩ [] ∧ d'.fused = false ∧ d'.most = d.most := by
  have step1 : ∃ d1, d.vcut (1 : Nat) (0 : Nat) = (0, d1) ∧ d1.off = false ∧ d1.fused = false ∧ d1.most = d.most ∧ d1.file 0 = ⟨[], []⟩ ∧ (d1.file 1).stands = [] ∧ DSz d1 (k + 1) m := by
    have hz1 := hz.vcut (1 : Nat) (0 : Nat)
    rcases vcut_unf hoff hfu 1 (by omega) 0 (Nat.zero_le _) with ⟨hl, h⟩ | h
    · rw [h] at hz1
      exact ⟨d, h, hoff, hfu, rfl, h0, List.length_eq_zero_iff.1 hl, hz1⟩
    · rw [h] at hz1
      exact ⟨_, h, by rw [upd_off]; exact hoff, by rw [upd_fused]; exact hfu, upd_most _ _ _, by rw [show (0 : Nat) = 1 - 1 from rfl, upd_ne _ _ _ (by omega)]; exact h0, by rw [upd_self _ _ _ (by omega), stands_cutn (hz.f 1) (by omega) (by omega)]; rfl, hz1⟩
  obtain ⟨d1, e1, o1, u1, m1, f1, s1, z1⟩ := step1
  have e2 : d1.vcut (0 : Nat) (0 : Nat) = (0, d1) := vcut_same o1 0 (by omega) 0 (by rw [f1]; rfl)
  have hl : (headI 1 0).length = 44 := headI_len 1 0
  have e3 := write_unf o1 u1 1 (by omega) (headI 1 0) (by
    rw [room_split d1 1 (by omega), s1, show (1 - 1 : Nat) = 0 from rfl, f1, hl, m1]
    show ((44 : Nat) : Int) ≤ max 0 (d.most - (([] : List Int).length : Nat) - (([] : List Int).length : Nat))
    simp; omega)
  have o2 : (d1.upd 1 ⟨(d1.file 1).s, (d1.file 1).l ++ [.wr (headI 1 0)]⟩).off = false := by rw [upd_off]; exact o1
  have u2 : (d1.upd 1 ⟨(d1.file 1).s, (d1.file 1).l ++ [.wr (headI 1 0)]⟩).fused = false := by rw [upd_fused]; exact u1
  have m2 : (d1.upd 1 ⟨(d1.file 1).s, (d1.file 1).l ++ [.wr (headI 1 0)]⟩).most = d.most := by rw [upd_most]; exact m1
  have f2 : (d1.upd 1 ⟨(d1.file 1).s, (d1.file 1).l ++ [.wr (headI 1 0)]⟩).file 0 = ⟨[], []⟩ := by rw [show (0 : Nat) = 1 - 1 from rfl, upd_ne _ _ _ (by omega)]; exact f1
  have s2 : ((d1.upd 1 ⟨(d1.file 1).s, (d1.file 1).l ++ [.wr (headI 1 0)]⟩).file 1).stands = headI 1 0 := by
    rw [upd_self _ _ _ (by omega), stands_put (z1.f 1) (by omega) (by omega) _ (by rw [hl]; omega), s1]; rfl
  generalize d1.upd 1 ⟨(d1.file 1).s, (d1.file 1).l ++ [.wr (headI 1 0)]⟩ = d2 at *
  have e4 := sync_unf o2 u2 1 (by omega)
  rw [s2] at e4
  have hq : d.begin = (0, d2.upd 1 ⟨headI 1 0, []⟩) := by
    unfold Dk.begin beginL
    rw [seq_go (f := fun d => d.vcut 1 0) e1, seq_go (f := fun d => d.vcut 0 0) e2, seq_go (f := fun d => d.write 1 (headI 1 0)) e3, seq_go (f := fun d => d.sync 1) e4]; rfl
  refine ⟨d2.upd 1 ⟨headI 1 0, []⟩, ?_, ⟨by rw [upd_off]; exact o2, rfl, by show 1 < 2; omega, rfl, by show (1 : Int) ≤ 1 ∧ (1 : Int) ≤ 4611686018427387904; omega, rfl, fun r hr => by simp at hr, by simp, ⟨headI 1 0, upd_self _ _ _ (by omega), 0, Nat.zero_le _, by simp [framesI]⟩, ?_, ?_⟩, by rw [upd_fused]; exact u2, by rw [upd_most]; exact m2⟩
  · unfold Dk.openV
    rw [if_neg (by rw [hoff]; simp), hb]
    dsimp only
    rw [hq, if_pos (show (0 : Int) = 0 from rfl)]
  · intro b hb g l2 h
    rw [show (1 - (⟨1, 1, 0, false⟩ : Va).file) = 1 - 1 from rfl, upd_ne _ _ _ (by omega), show (1 - 1 : Nat) = 0 from rfl, f2] at hb
    rw [hb.sure, look_nil] at h; cases h
  · show (Dk.file _ (1 - 1)).stands = []
    rw [upd_ne _ _ _ (by omega), show (1 - 1 : Nat) = 0 from rfl, f2]; rfl
def freshD (most : Int) : Dk := ⟨⟨[], []⟩, ⟨[], []⟩, most, false, false, 0⟩
theorem fresh_dg {most : Int} (h0 : 0 ≤ most) (h1 : most ≤ 4194304) : DG (freshD most) 0 0 :=
  ⟨⟨fun f => by rcases f with _ | f <;> exact ⟨Nat.le_refl _, Nat.le_refl _⟩, h0, h1⟩, ⟨fun f => by rcases f with _ | f <;> exact (⟨fun x hx => (List.not_mem_nil hx).elim, fun b hb => (List.not_mem_nil hb).elim⟩ : FilB ⟨[], []⟩)⟩⟩
theorem open_fresh {most : Int} (h0 : 44 ≤ most) (h1 : most ≤ 4194304) : ∃ d', (freshD most).openV = (0, d', some (⟨1, 1, 0, false⟩, [])) ∧ Live d' ⟨1, 1, 0, false⟩ [] ∧ d'.fused = false ∧ d'.most = most :=
  begin_unf rfl rfl (fresh_dg (by omega) h1).sz (by omega) (by omega) rfl h0 (by
    show updI (updI none 0 (lookI 0 [])) 1 (lookI 1 []) = none
    rw [look_nil, look_nil]; rfl)
/-- how much room there is beside a vault -/
theorem Live.room {d : Dk} {x : Va} {ls : List (List Int)} (h : Live d x ls) : roomF d = max 0 (d.most - (44 + sizeI ls : Nat)) := by
  rw [room_split d x.file h.file, h.stands, h.emp]
  simp
/-- all that is kept of a disk, kept by a row of calls -/
theorem DG.up {d : Dk} {k m k' m' : Nat} (h : DG d k m) (hk : k ≤ k') (hm : m ≤ m') : DG d k' m' := ⟨h.sz.up hk hm, h.by_⟩
theorem dg_seq (c : Nat) : ∀ (l : List (Dk → Int × Dk)) (d : Dk) (k m : Nat), (∀ f ∈ l, ∀ d k m, DG d k m → DG (f d).2 (k + 1) (m + c)) → DG d k m → DG (seqD l d).2 (k + l.length) (m + c * l.length)
  | [], d, k, m, _, h => h
  | f :: t, d, k, m, hf, h => by
    have h1 := hf f (List.mem_cons_self ..) d k m h
    rw [seq_one (h := show f d = ((f d).1, (f d).2) from rfl)]
    have hl : c * (f :: t).length = c + c * t.length := by rw [List.length_cons, Nat.mul_succ]; omega
    split
    · exact (dg_seq c t _ _ _ (fun g hg => hf g (List.mem_cons_of_mem _ hg)) h1).up (by rw [List.length_cons]; omega) (by omega)
    · exact h1.up (by rw [List.length_cons]; omega) (by omega)
theorem dg_vcut (c : Nat) (f n : Int) (d : Dk) (k m : Nat) (h : DG d k m) : DG (d.vcut f n).2 (k + 1) (m + c) := ⟨(h.sz.vcut f n).up (Nat.le_refl _) (by omega), h.by_.vcut f n⟩
theorem dg_cut (c : Nat) (f n : Int) (d : Dk) (k m : Nat) (h : DG d k m) : DG (d.cut f n).2 (k + 1) (m + c) := ⟨(h.sz.cut f n).up (Nat.le_refl _) (by omega), h.by_.cut f n⟩
theorem dg_sync (c : Nat) (f : Int) (d : Dk) (k m : Nat) (h : DG d k m) : DG (d.sync f).2 (k + 1) (m + c) := ⟨(h.sz.sync f).up (by omega) (by omega), h.by_.sync f⟩
theorem dg_write (c : Nat) (f : Int) (b : List Int) (hb : Bytes b) (hl : b.length ≤ c) (d : Dk) (k m : Nat) (h : DG d k m) : DG (d.write f b).2 (k + 1) (m + c) := ⟨(h.sz.write f b).up (Nat.le_refl _) (by omega), h.by_.write f b hb⟩
theorem DG.beginV {d : Dk} {k m : Nat} (h : DG d k m) : DG d.begin.2 (k + 4) (m + 176) :=
  dg_seq 44 beginL d k m (fun f hf d k m h => by
    simp only [beginL, List.mem_cons, List.not_mem_nil, or_false] at hf
    rcases hf with rfl | rfl | rfl | rfl
    · exact dg_vcut _ _ _ _ _ _ h
    · exact dg_vcut _ _ _ _ _ _ h
    · exact dg_write _ _ _ (head_bytes 1 0) (by rw [headI_len]; omega) _ _ _ h
    · exact dg_sync _ _ _ _ _ h) h
theorem DG.openV {d : Dk} {k m : Nat} (h : DG d k m) : DG d.openV.2.1 (k + 4) (m + 176) := by
  unfold Dk.openV
  split
  · exact h.up (by omega) (by omega)
  · split
    · split <;> exact h.beginV
    · rename_i f g ls _
      have := dg_seq 0 (openL f (44 + sizeI ls)) d k m (fun q hf d k m h => by
        simp only [openL, List.mem_cons, List.not_mem_nil, or_false] at hf
        rcases hf with rfl | rfl | rfl
        · exact dg_vcut _ _ _ _ _ _ h
        · exact dg_sync _ _ _ _ _ h
        · exact dg_vcut _ _ _ _ _ _ h) h
      have := this.up (k' := k + 4) (m' := m + 176) (by show k + 3 ≤ _; omega) (by omega)
      split <;> exact this
theorem DG.addV {d : Dk} {k m : Nat} (h : DG d k m) (x : Va) (ls : List (List Int)) (hb : ∀ r ∈ ls, Bytes r) : DG (d.addV x ls).2.1 (k + 4) (m + 4 * (44 + sizeI ls)) := by
  have h0 := h.up (k' := k + 4) (m' := m + 4 * (44 + sizeI ls)) (by omega) (by omega)
  unfold Dk.addV
  split
  · exact h0
  · split
    · exact h0
    · split
      · exact h0
      · have := dg_seq (sizeI ls) (addL x ls) d k m (fun q hf d k m h => by
          simp only [addL, List.mem_cons, List.not_mem_nil, or_false] at hf
          rcases hf with rfl | rfl
          · exact dg_write _ _ _ (frames_bytes _ _ _ hb) (by rw [framesI_len]; omega) _ _ _ h
          · exact dg_sync _ _ _ _ _ h) h
        have := this.up (k' := k + 4) (m' := m + 4 * (44 + sizeI ls)) (by show k + 2 ≤ _; omega) (by show m + sizeI ls * 2 ≤ _; omega)
        split <;> exact this
theorem DG.compV {d : Dk} {k m : Nat} (h : DG d k m) (x : Va) (ls : List (List Int)) (hb : ∀ r ∈ ls, Bytes r) : DG (d.compV x ls).2.1 (k + 4) (m + 4 * (44 + sizeI ls)) := by
  have h0 := h.up (k' := k + 4) (m' := m + 4 * (44 + sizeI ls)) (by omega) (by omega)
  unfold Dk.compV
  split
  · exact h0
  · split
    · exact h0
    · split
      · exact h0
      · split
        · exact h0
        · have := dg_seq (44 + sizeI ls) (compL x ls) d k m (fun q hf d k m h => by
            simp only [compL, List.mem_cons, List.not_mem_nil, or_false] at hf
            rcases hf with rfl | rfl | rfl | rfl
            · exact dg_vcut _ _ _ _ _ _ h
            · exact dg_write _ _ _ ((head_bytes _ _).append (frames_bytes _ _ _ hb)) (by show (headI _ _ ++ framesI _ _ ls).length ≤ _; rw [List.length_append, headI_len, framesI_len]; omega) _ _ _ h
            · exact dg_sync _ _ _ _ _ h
            · exact dg_cut _ _ _ _ _ _ h) h
          have := this.up (k' := k + 4) (m' := m + 4 * (44 + sizeI ls)) (by show k + 4 ≤ _; omega) (by show m + (44 + sizeI ls) * 4 ≤ _; omega)
          split <;> exact this
end Go.Proofs.YtfohemgfiidokaaDoor
