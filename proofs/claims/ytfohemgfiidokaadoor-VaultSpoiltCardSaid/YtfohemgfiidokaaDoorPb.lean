/- Plain: Open, Add and Compact whatever the power does. -/
import Derived.Test.YtfohemgfiidokaaDoorPa
namespace Go.Proofs.YtfohemgfiidokaaDoor
open Go.RowKit Go.Sort

/-- one call more is done: a file is turned -/
def Dk.upd (d : Dk) (f : Nat) (F : Fil) : Dk := d.tick.setFile f F
section
variable (d : Dk) (f g : Nat) (F : Fil)
theorem upd_self (hf : f < 2) : (d.upd f F).file f = F := file_self _ _ _ hf
theorem upd_ne (hf : f < 2) : (d.upd f F).file (1 - f) = d.file (1 - f) := by
  unfold Dk.upd
  rw [file_ne _ _ _ _ hf (by omega) (by omega), tick_file]
theorem upd_off : (d.upd f F).off = d.off := by rcases f with _ | f <;> rfl
theorem upd_fused : (d.upd f F).fused = d.fused := by rcases f with _ | f <;> rfl
theorem upd_most : (d.upd f F).most = d.most := by rcases f with _ | f <;> rfl
end
theorem put_upd (d : Dk) (f : Nat) (c : Chg) : d.tick.put f c = d.upd f ⟨(d.file f).s, (d.file f).l ++ [c]⟩ := by
  unfold Dk.put Dk.upd
  rw [tick_file]
theorem goes_or (d : Dk) (G : Dk → Dk) : (d.fused = true ∧ d.goes G = (8, { d with off := true })) ∨ d.goes G = (0, G d.tick) := by
  by_cases h : d.burns
  · exact .inl ⟨h.1, goes_burn h G⟩
  · exact .inr (goes_do h G)
theorem file_off (d : Dk) (b : Bool) (f : Nat) : ({ d with off := b } : Dk).file f = d.file f := by rcases f with _ | f <;> rfl
theorem write_or {d : Dk} (hoff : d.off = false) (f : Nat) (hf : f < 2) (b : List Int) (hr : (b.length : Int) ≤ roomF d) : (d.fused = true ∧ d.write f b = (8, { d with off := true })) ∨ d.write f b = (0, d.upd f ⟨(d.file f).s, (d.file f).l ++ [.wr b]⟩) := by
  rw [write_eq hoff f hf b hr, ← put_upd]
  exact goes_or d _
theorem sync_or {d : Dk} (hoff : d.off = false) (f : Nat) (hf : f < 2) : (d.fused = true ∧ d.sync f = (8, { d with off := true })) ∨ d.sync f = (0, d.upd f ⟨(d.file f).stands, []⟩) := by
  rw [sync_eq hoff f hf]
  have := goes_or d fun d => d.setFile f ⟨(d.file f).stands, []⟩
  rwa [show (d.tick.setFile f ⟨(d.tick.file f).stands, []⟩) = d.upd f ⟨(d.file f).stands, []⟩ by rw [tick_file]; rfl] at this
theorem cut_or {d : Dk} (hoff : d.off = false) (f : Nat) (hf : f < 2) (n : Nat) (hn : n ≤ (d.file f).stands.length) : (d.fused = true ∧ d.cut f n = (8, { d with off := true })) ∨ d.cut f n = (0, d.upd f ⟨(d.file f).s, (d.file f).l ++ [.ct n]⟩) := by
  rw [cut_eq hoff f hf n hn, ← put_upd]
  exact goes_or d _
theorem vcut_or {d : Dk} (hoff : d.off = false) (f : Nat) (hf : f < 2) (n : Nat) (hn : n ≤ (d.file f).stands.length) : (d.fused = true ∧ d.vcut f n = (8, { d with off := true })) ∨ ((d.file f).stands.length = n ∧ d.vcut f n = (0, d)) ∨ d.vcut f n = (0, d.upd f ⟨(d.file f).s, (d.file f).l ++ [.ct n]⟩) := by
  by_cases h : (d.file f).stands.length = n
  · exact .inr (.inl ⟨h, vcut_same hoff f hf n h⟩)
  · rw [vcut_cut hoff f hf n (by omega), ← put_upd]
    rcases goes_or d fun d => d.put f (.ct n) with h | h
    · exact .inl h
    · exact .inr (.inr h)

theorem seq_go {d d1 : Dk} {f : Dk → Int × Dk} {t : List (Dk → Int × Dk)} (h : f d = (0, d1)) : seqD (f :: t) d = seqD t d1 := by rw [seq_one h, if_pos rfl]
theorem seq_stop {d d1 : Dk} {f : Dk → Int × Dk} {t : List (Dk → Int × Dk)} (h : f d = (8, d1)) : seqD (f :: t) d = (8, d1) := by rw [seq_one h, if_neg (by decide)]
/-- a vault that goes on: its records are sure -/
structure Live (d : Dk) (x : Va) (ls : List (List Int)) : Prop where
  off : d.off = false
  bro : x.broken = false
  file : x.file < 2
  n : x.n = ls.length
  g : 1 ≤ x.gen ∧ x.gen ≤ 4611686018427387904
  par : x.gen % 2 = x.file
  rec_ : RecOk ls
  len : ls.length ≤ 1000000
  sure : ∃ S, d.file x.file = ⟨S, []⟩ ∧ Good x.gen ls S
  oth : ∀ b, Out (d.file (1 - x.file)) b → ∀ g l2, lookI (1 - x.file : Nat) b = some (g, l2) → g < x.gen
  emp : (d.file (1 - x.file)).stands = []
/-- whatever is lost, what is found is good -/
def Safe (d : Dk) (Fd : List (List Int) → Prop) : Prop := ∀ b0 b1, Out d.f0 b0 → Out d.f1 b1 → ∃ f g ls, best2 b0 b1 = some (f, g, ls) ∧ Fd ls
theorem safe_of {d : Dk} {f : Nat} (hf : f < 2) {Fd : List (List Int) → Prop} (h : ∀ a b, Out (d.file f) a → Out (d.file (1 - f)) b → ∃ q g ls, pick f a b = some (q, g, ls) ∧ Fd ls) : Safe d Fd := fun b0 b1 h0 h1 => by
  rcases f with _ | _ | f
  · exact h b0 b1 h0 h1
  · exact h b1 b0 h1 h0
  · omega
/-- one of a file's texts is best beside each of the other's -/
theorem safe_one {d : Dk} {f : Nat} (hf : f < 2) {Fd : List (List Int) → Prop} {gg : Int} (h0 : ∀ a, Out (d.file f) a → ∃ ls, lookI f a = some (gg, ls) ∧ Fd ls) (h1 : ∀ b, Out (d.file (1 - f)) b → ∀ g l2, lookI (1 - f : Nat) b = some (g, l2) → g < gg) : Safe d Fd :=
  safe_of hf fun a b ha hb => by
    obtain ⟨ls, h2, h3⟩ := h0 a ha
    exact ⟨f, gg, ls, best_pick hf h2 (fun g2 l2 h => h1 b hb g2 l2 (by rw [show ((1 - f : Nat) : Int) = 1 - (f : Int) by omega]; exact h)), h3⟩
theorem sub_nat {f : Nat} (hf : f < 2) : ((1 - f : Nat) : Int) = 1 - (f : Int) := by omega
theorem Live.look {d : Dk} {x : Va} {ls : List (List Int)} (h : Live d x ls) {S : List Int} (hs : Good x.gen ls S) : lookI x.file S = some (x.gen, ls) := look_good hs h.rec_ h.g h.par (by have := h.len; omega)
theorem Live.safe {d : Dk} {x : Va} {ls : List (List Int)} (h : Live d x ls) {Fd : List (List Int) → Prop} (hF : Fd ls) : Safe d Fd := by
  obtain ⟨S, hS, hG⟩ := h.sure
  exact safe_one h.file (fun a ha => by rw [hS] at ha; rw [ha.sure]; exact ⟨ls, h.look hG, hF⟩) h.oth
theorem Safe.off {d : Dk} {Fd : List (List Int) → Prop} (h : Safe d Fd) (b : Bool) : Safe { d with off := b } Fd := h
theorem Live.stands {d : Dk} {x : Va} {ls : List (List Int)} (h : Live d x ls) : (d.file x.file).stands.length = 44 + sizeI ls := by
  obtain ⟨S, hS, hG⟩ := h.sure
  rw [hS]; exact hG.len
theorem room_split (d : Dk) (f : Nat) (hf : f < 2) : roomF d = max 0 (d.most - ((d.file f).stands.length : Nat) - ((d.file (1 - f)).stands.length : Nat)) := by
  rcases f with _ | _ | f
  · rfl
  · unfold roomF; simp only [Dk.file]; omega
  · omega

/-- Open of a disk that is settled -/
theorem open_settled {d : Dk} {b0 b1 : List Int} (hoff : d.off = false) (h0 : d.f0 = ⟨b0, []⟩) (h1 : d.f1 = ⟨b1, []⟩) (hb0 : Bytes b0) (hb1 : Bytes b1) {f : Nat} {g : Int} {ls : List (List Int)} (hb : best2 b0 b1 = some (f, g, ls)) (hlen : ls.length ≤ 1000000) :
    (∃ d', d.openV = (0, d', some (⟨f, g, ls.length, false⟩, ls)) ∧ Live d' ⟨f, g, ls.length, false⟩ ls ∧ d'.fused = d.fused ∧ d'.most = d.most) ∨
    (∃ d', d.openV = (8, d', none) ∧ d'.off = true ∧ d.fused = true ∧ ∀ Fd : List (List Int) → Prop, Fd ls → Safe d' Fd) := by
  obtain ⟨hf, hlk, hot⟩ := best_inv hb
  have hfile : d.file f = ⟨if f = 0 then b0 else b1, []⟩ := by rcases f with _ | f; exact h0; exact h1
  have hfo : d.file (1 - f) = ⟨if f = 0 then b1 else b0, []⟩ := by
    rcases f with _ | _ | f
    · exact h1
    · exact h0
    · omega
  have hba : Bytes (if f = 0 then b0 else b1) := by split <;> assumption
  generalize (if f = 0 then b0 else b1) = a at *
  generalize (if f = 0 then b1 else b0) = c at *
  obtain ⟨hG, hok, hg, hp⟩ := look_inv hba hlk
  have hsz := look_size hba hlk
  have hlk2 : lookI f (a.take (44 + sizeI ls)) = some (g, ls) := look_good hG hok hg hp (by omega)
  have hot2 : ∀ g2 l2, lookI (1 - f : Nat) c = some (g2, l2) → g2 < g := fun g2 l2 h => hot g2 l2 (by rw [← sub_nat hf]; exact h)
  have hnil : ∀ g2 l2, lookI (1 - f : Nat) [] = some (g2, l2) → g2 < g := fun g2 l2 h => by rw [look_nil] at h; cases h
  have hbest : bestN d 2 = some (f, g, ls) := by rw [best_two, h0, h1]; exact hb
  have hopen : d.openV = if (seqD (openL f (44 + sizeI ls)) d).1 = 0 then (0, (seqD (openL f (44 + sizeI ls)) d).2, some (⟨f, g, ls.length, false⟩, ls)) else ((seqD (openL f (44 + sizeI ls)) d).1, (seqD (openL f (44 + sizeI ls)) d).2, none) := by
    unfold Dk.openV
    rw [if_neg (by rw [hoff]; simp), hbest]
  -- the first cut
  have step1 : (d.fused = true ∧ d.vcut f (44 + sizeI ls : Nat) = (8, { d with off := true })) ∨ ∃ d1, d.vcut f (44 + sizeI ls : Nat) = (0, d1) ∧ d1.off = false ∧ d1.fused = d.fused ∧ d1.most = d.most ∧ d1.file (1 - f) = ⟨c, []⟩ ∧ (d1.file f).stands = a.take (44 + sizeI ls) ∧ ∀ b, Out (d1.file f) b → lookI f b = some (g, ls) := by
    rcases vcut_or hoff f hf (44 + sizeI ls) (by rw [hfile]; exact hsz) with h | ⟨hl, h⟩ | h
    · exact .inl h
    · refine .inr ⟨d, h, hoff, rfl, rfl, hfo, ?_, fun b hb => ?_⟩
      · rw [hfile] at hl ⊢
        exact (List.take_of_length_le (Nat.le_of_eq hl)).symm
      · rw [hfile] at hb; rw [hb.sure]; exact hlk
    · refine .inr ⟨_, h, by rw [upd_off]; exact hoff, upd_fused _ _ _, upd_most _ _ _, by rw [upd_ne _ _ _ hf]; exact hfo, ?_, fun b hb => ?_⟩
      · rw [upd_self _ _ _ hf, hfile]
        show (⟨a, [.ct (44 + sizeI ls : Nat)]⟩ : Fil).stands = _
        show a.take ((44 + sizeI ls : Nat) : Int).toNat = _
        rw [Int.toNat_natCast]
      · rw [upd_self _ _ _ hf] at hb
        rcases hb.put with hb | ⟨n, -, rfl⟩
        · rw [hfile] at hb; rw [hb.sure]; exact hlk
        · rw [hfile]
          show lookI f (a.take ((44 + sizeI ls : Nat) : Int).toNat) = _
          rw [Int.toNat_natCast]; exact hlk2
  rcases step1 with ⟨hfu, h⟩ | ⟨d1, e1, o1, u1, m1, f1, s1, l1⟩
  · refine .inr ⟨{ d with off := true }, ?_, rfl, hfu, fun Fd hF => ?_⟩
    · have hq : seqD (openL f (44 + sizeI ls)) d = (8, { d with off := true }) := by rw [openL, seq_stop (f := fun d => d.vcut f (44 + sizeI ls : Nat)) h]
      rw [hopen, hq, if_neg (show ¬ (8 : Int) = 0 by decide)]
    · refine safe_one (gg := g) hf (fun b hb => ?_) (fun b hb => ?_)
      · rw [file_off, hfile] at hb; rw [hb.sure]; exact ⟨ls, hlk, hF⟩
      · rw [file_off, hfo] at hb; rw [hb.sure]; exact hot2
  rcases sync_or o1 f hf with ⟨hfu, h⟩ | h
  · refine .inr ⟨{ d1 with off := true }, ?_, rfl, by rw [← u1]; exact hfu, fun Fd hF => ?_⟩
    · have hq : seqD (openL f (44 + sizeI ls)) d = (8, { d1 with off := true }) := by rw [openL, seq_go (f := fun d => d.vcut f (44 + sizeI ls : Nat)) e1, seq_stop (f := fun d => d.sync f) h]
      rw [hopen, hq, if_neg (show ¬ (8 : Int) = 0 by decide)]
    · refine safe_one (gg := g) hf (fun b hb => ?_) (fun b hb => ?_)
      · rw [file_off] at hb; exact ⟨ls, l1 b hb, hF⟩
      · rw [file_off, f1] at hb; rw [hb.sure]; exact hot2
  rw [s1] at h
  have d2o : (d1.upd f ⟨a.take (44 + sizeI ls), []⟩).off = false := by rw [upd_off]; exact o1
  have d2f : (d1.upd f ⟨a.take (44 + sizeI ls), []⟩).file f = ⟨a.take (44 + sizeI ls), []⟩ := upd_self _ _ _ hf
  have d2g : (d1.upd f ⟨a.take (44 + sizeI ls), []⟩).file (1 - f) = ⟨c, []⟩ := by rw [upd_ne _ _ _ hf]; exact f1
  have d2u : (d1.upd f ⟨a.take (44 + sizeI ls), []⟩).fused = d.fused := by rw [upd_fused]; exact u1
  have d2m : (d1.upd f ⟨a.take (44 + sizeI ls), []⟩).most = d.most := by rw [upd_most]; exact m1
  generalize d1.upd f ⟨a.take (44 + sizeI ls), []⟩ = d2 at *
  have hf1 : 1 - f < 2 := by omega
  have live : ∀ d3 : Dk, d3.off = false → d3.file f = ⟨a.take (44 + sizeI ls), []⟩ → (∀ b, Out (d3.file (1 - f)) b → b = c ∨ b = []) → (d3.file (1 - f)).stands = [] → Live d3 ⟨f, g, ls.length, false⟩ ls := fun d3 q1 q2 q3 q4 =>
    ⟨q1, rfl, hf, rfl, hg, hp, hok, hlen, ⟨_, q2, hG⟩, fun b hb => by
      rcases q3 b hb with rfl | rfl
      · exact hot2
      · exact hnil, q4⟩
  rcases vcut_or d2o (1 - f) hf1 0 (Nat.zero_le _) with ⟨hfu, h3⟩ | ⟨hl, h3⟩ | h3
  · refine .inr ⟨{ d2 with off := true }, ?_, rfl, by rw [← d2u]; exact hfu, fun Fd hF => ?_⟩
    · have hq : seqD (openL f (44 + sizeI ls)) d = (8, { d2 with off := true }) := by rw [openL, seq_go (f := fun d => d.vcut f (44 + sizeI ls : Nat)) e1, seq_go (f := fun d => d.sync f) h, seq_stop (f := fun d => d.vcut (1 - (f : Int)) 0) (by rw [← sub_nat hf]; exact h3)]
      rw [hopen, hq, if_neg (show ¬ (8 : Int) = 0 by decide)]
    · refine safe_one (gg := g) hf (fun b hb => ?_) (fun b hb => ?_)
      · rw [file_off, d2f] at hb; rw [hb.sure]; exact ⟨ls, hlk2, hF⟩
      · rw [file_off, d2g] at hb; rw [hb.sure]; exact hot2
  · refine .inl ⟨d2, ?_, live d2 d2o d2f (fun b hb => by rw [d2g] at hb; exact .inl hb.sure) (List.length_eq_zero_iff.1 hl), d2u, d2m⟩
    have hq : seqD (openL f (44 + sizeI ls)) d = (0, d2) := by rw [openL, seq_go (f := fun d => d.vcut f (44 + sizeI ls : Nat)) e1, seq_go (f := fun d => d.sync f) h, seq_go (f := fun d => d.vcut (1 - (f : Int)) 0) (by rw [← sub_nat hf]; exact h3)]; rfl
    rw [hopen, hq, if_pos (show (0 : Int) = 0 from rfl)]
  · have hff : 1 - (1 - f) = f := by omega
    refine .inl ⟨(d2.upd (1 - f) ⟨(d2.file (1 - f)).s, (d2.file (1 - f)).l ++ [.ct (0 : Nat)]⟩), ?_, live (d2.upd (1 - f) ⟨(d2.file (1 - f)).s, (d2.file (1 - f)).l ++ [.ct (0 : Nat)]⟩) (by rw [upd_off]; exact d2o) (by have := upd_ne d2 (1 - f) ⟨(d2.file (1 - f)).s, (d2.file (1 - f)).l ++ [.ct (0 : Nat)]⟩ hf1; rw [hff] at this; rw [this]; exact d2f) (fun b hb => ?_) ?_, by rw [upd_fused]; exact d2u, by rw [upd_most]; exact d2m⟩
    · have hq : seqD (openL f (44 + sizeI ls)) d = (0, d2.upd (1 - f) ⟨(d2.file (1 - f)).s, (d2.file (1 - f)).l ++ [.ct (0 : Nat)]⟩) := by rw [openL, seq_go (f := fun d => d.vcut f (44 + sizeI ls : Nat)) e1, seq_go (f := fun d => d.sync f) h, seq_go (f := fun d => d.vcut (1 - (f : Int)) 0) (by rw [← sub_nat hf]; exact h3)]; rfl
      rw [hopen, hq, if_pos (show (0 : Int) = 0 from rfl)]
    · rw [upd_self _ _ _ hf1] at hb
      rcases hb.put with hb | ⟨n, -, rfl⟩
      · rw [d2g] at hb; exact .inl hb.sure
      · exact .inr rfl
    · rw [upd_self _ _ _ hf1, d2g]; rfl
end Go.Proofs.YtfohemgfiidokaaDoor
