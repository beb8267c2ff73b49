/- Plain: the disk under a vault; the document's example. -/
import Derived.Test.YtfohemgfiidokaaGreatDoorYw
namespace Go.Proofs.YtfohemgfiidokaaGreatDoor
open Go.RowKit Go.Sort

theorem stands_sure (S : List Int) : (⟨S, []⟩ : Fil).stands = S := rfl
theorem stands_wr (S b : List Int) (h : b.length ≤ 9223372036854775807) : (⟨S, [.wr b]⟩ : Fil).stands = S ++ b := by
  show keptF S 9223372036854775807 [.wr b] = _
  rw [keptF, if_neg (by omega), keptF]
  show S ++ b.take (9223372036854775807 : Int).toNat = _
  rw [List.take_of_length_le (by omega)]
theorem stands_ct (S : List Int) : (⟨S, [.ct 0]⟩ : Fil).stands = [] := rfl
theorem file_self (d : Dk) (f : Nat) (F : Fil) (hf : f < 2) : (d.setFile f F).file f = F := by rw [file_set d f f F hf, if_pos Iff.rfl]
theorem file_ne (d : Dk) (f g : Nat) (F : Fil) (hf : f < 2) (hg : g < 2) (h : f ≠ g) : (d.setFile f F).file g = d.file g := by rw [file_set d f g F hf, if_neg (by omega)]
theorem may_ok {d : Dk} (h : d.off = false) (f : Nat) (hf : f < 2) : mayv d.off (f : Int) = 0 := by rw [h]; unfold mayv; simp; omega
theorem may_off {d : Dk} (h : d.off = true) (f : Int) : mayv d.off f = 8 := by rw [h]; rfl
/-- the power goes -/
def Dk.burns (d : Dk) : Prop := d.fused = true ∧ d.left = 0
theorem goes_burn {d : Dk} (h : d.burns) (G : Dk → Dk) : d.goes G = (8, { d with off := true }) := if_pos h
theorem goes_do {d : Dk} (h : ¬ d.burns) (G : Dk → Dk) : d.goes G = (0, G d.tick) := if_neg h
theorem write_eq {d : Dk} (hoff : d.off = false) (f : Nat) (hf : f < 2) (b : List Int) (hr : (b.length : Int) ≤ roomF d) : d.write f b = d.goes fun d => d.put f (.wr b) := by
  unfold Dk.write
  rw [if_neg (by rw [may_ok hoff f hf]; simp), if_neg (by omega)]
  rfl
theorem sync_eq {d : Dk} (hoff : d.off = false) (f : Nat) (hf : f < 2) : d.sync f = d.goes fun d => d.setFile f ⟨(d.file f).stands, []⟩ := by
  unfold Dk.sync
  rw [if_neg (by rw [may_ok hoff f hf]; simp)]
  rfl
theorem cut_eq {d : Dk} (hoff : d.off = false) (f : Nat) (hf : f < 2) (n : Nat) (hn : n ≤ (d.file f).stands.length) : d.cut f n = d.goes fun d => d.put f (.ct n) := by
  unfold Dk.cut
  rw [if_neg (by rw [may_ok hoff f hf]; simp), if_neg (by rw [Int.toNat_natCast]; omega)]
  rfl
theorem vcut_same {d : Dk} (hoff : d.off = false) (f : Nat) (hf : f < 2) (n : Nat) (hn : (d.file f).stands.length = n) : d.vcut f n = (0, d) := by
  unfold Dk.vcut
  rw [if_neg (by rw [may_ok hoff f hf]; simp), if_pos (by rw [Int.toNat_natCast, hn])]
theorem vcut_cut {d : Dk} (hoff : d.off = false) (f : Nat) (hf : f < 2) (n : Nat) (hn : n < (d.file f).stands.length) : d.vcut f n = d.goes fun d => d.put f (.ct n) := by
  unfold Dk.vcut
  rw [if_neg (by rw [may_ok hoff f hf]; simp), if_neg (by rw [Int.toNat_natCast]; omega), cut_eq hoff f hf n (by omega)]
theorem seq_one {d d1 : Dk} {r : Int} {f : Dk → Int × Dk} {t : List (Dk → Int × Dk)} (h : f d = (r, d1)) : seqD (f :: t) d = if r = 0 then seqD t d1 else (r, d1) := by
  rw [seqD, h]

section
/-- the example's records -/
def wAB : List (List Int) := [[97, 98], [99]]
def wD : List (List Int) := [[100]]
def wDE : List (List Int) := [[100], [101]]
theorem wok (ls : List (List Int)) (h : ls = wAB ∨ ls = wD ∨ ls = wDE ∨ ls = [[101]] ∨ ls = [[102]]) : RecOk ls := by
  rcases h with rfl | rfl | rfl | rfl | rfl <;> intro r hr <;> simp [wAB, wD, wDE] at hr
  all_goals (first | (rcases hr with rfl | rfl) | subst hr)
  all_goals refine ⟨fun b hb => ?_, by simp⟩
  all_goals simp at hb
  all_goals omega
def S0 : List Int := headI 1 0
def S1 : List Int := headI 1 0 ++ framesI 1 0 wAB
def S2 : List Int := headI 2 1 ++ framesI 2 0 wD
def FE : List Int := framesI 2 1 [[101]]
theorem S0_len : S0.length = 44 := headI_len 1 0
theorem S1_len : S1.length = 119 := by unfold S1; rw [List.length_append, headI_len, framesI_len]; rfl
theorem S2_len : S2.length = 81 := by unfold S2; rw [List.length_append, headI_len, framesI_len]; rfl
theorem FE_len : FE.length = 37 := by unfold FE; rw [framesI_len]; rfl
theorem look_S0 : lookI 1 S0 = some (1, []) := look_good (f := 1) (g := 1) (ls := []) ⟨0, Nat.le_refl _, by simp [S0, framesI]⟩ (fun r hr => by simp at hr) (by omega) rfl (by simp)
theorem look_S1 : lookI 1 S1 = some (1, wAB) := look_good (f := 1) (g := 1) ⟨0, Nat.zero_le _, rfl⟩ (wok _ (.inl rfl)) (by omega) rfl (by simp [wAB])
theorem look_S2 : lookI 0 S2 = some (2, wD) := look_good (f := 0) (g := 2) ⟨1, by simp [wD], rfl⟩ (wok _ (.inr (.inl rfl))) (by omega) rfl (by simp [wD])
theorem look_S2E : lookI 0 (S2 ++ FE) = some (2, wDE) := look_good (f := 0) (g := 2) ⟨1, by simp [wDE], by rw [S2, FE, List.append_assoc, show wDE = wD ++ [[101]] from rfl, framesI_append]; rfl⟩ (wok _ (.inr (.inr (.inl rfl)))) (by omega) rfl (by simp [wDE])
theorem look_nil (f : Int) : lookI f [] = none := look_short f (by simp)
def D0 : Dk := ⟨⟨[], []⟩, ⟨[], []⟩, 1000, false, false, 0⟩
def D1 : Dk := ⟨⟨[], []⟩, ⟨S0, []⟩, 1000, false, false, -2⟩
def D2 : Dk := ⟨⟨[], []⟩, ⟨S1, []⟩, 1000, false, false, -4⟩
theorem w_begin : D0.begin = (0, D1) := by
  have h1 : D0.vcut (1 : Nat) (0 : Nat) = (0, D0) := vcut_same rfl 1 (by omega) 0 rfl
  have h2 : D0.vcut (0 : Nat) (0 : Nat) = (0, D0) := vcut_same rfl 0 (by omega) 0 rfl
  have h3 : D0.write (1 : Nat) S0 = (0, ⟨⟨[], []⟩, ⟨[], [.wr S0]⟩, 1000, false, false, -1⟩) := by
    rw [write_eq rfl 1 (by omega) _ (by rw [S0_len]; decide), goes_do (by simp [Dk.burns, D0])]
    rfl
  have h4 : (⟨⟨[], []⟩, ⟨[], [.wr S0]⟩, 1000, false, false, -1⟩ : Dk).sync (1 : Nat) = (0, D1) := by
    rw [sync_eq rfl 1 (by omega), goes_do (by simp [Dk.burns])]
    have : (⟨[], [.wr S0]⟩ : Fil).stands = S0 := by rw [stands_wr _ _ (by rw [S0_len]; omega)]; rfl
    show ((0 : Int), Dk.setFile _ 1 ⟨(⟨[], [.wr S0]⟩ : Fil).stands, []⟩) = _
    rw [this]; rfl
  unfold Dk.begin beginL
  rw [seq_one (f := fun d => d.vcut 1 0) h1, if_pos rfl, seq_one (f := fun d => d.vcut 0 0) h2, if_pos rfl, seq_one (f := fun d => d.write 1 (headI 1 0)) h3, if_pos rfl, seq_one (f := fun d => d.sync 1) h4, if_pos rfl]
  rfl
theorem w_open0 : D0.openV = (0, D1, some (⟨1, 1, 0, false⟩, [])) := by
  have hb : bestN D0 2 = none := by
    show updI (updI none 0 (lookI 0 [])) 1 (lookI 1 []) = none
    rw [look_nil, look_nil]; rfl
  unfold Dk.openV
  rw [if_neg (by decide), hb]
  dsimp only
  rw [w_begin, if_pos rfl]
theorem w_add : D1.addV ⟨1, 1, 0, false⟩ wAB = (0, D2, ⟨1, 1, 2, false⟩) := by
  have hr : roomF D1 = 956 := by show max (0 : Int) (1000 - (0 : Nat) - (S0.length : Nat)) = 956; rw [S0_len]; rfl
  have hs : sizeI wAB = 75 := rfl
  have hl : (framesI 1 0 wAB).length = 75 := by rw [framesI_len]; rfl
  have h3 : D1.write (1 : Nat) (framesI 1 0 wAB) = (0, ⟨⟨[], []⟩, ⟨S0, [.wr (framesI 1 0 wAB)]⟩, 1000, false, false, -3⟩) := by
    rw [write_eq rfl 1 (by omega) _ (by rw [hr, hl]; decide), goes_do (by simp [Dk.burns, D1])]
    rfl
  have h4 : (⟨⟨[], []⟩, ⟨S0, [.wr (framesI 1 0 wAB)]⟩, 1000, false, false, -3⟩ : Dk).sync (1 : Nat) = (0, D2) := by
    rw [sync_eq rfl 1 (by omega), goes_do (by simp [Dk.burns])]
    have : (⟨S0, [.wr (framesI 1 0 wAB)]⟩ : Fil).stands = S1 := by rw [stands_wr _ _ (by rw [hl]; omega)]; rfl
    show ((0 : Int), Dk.setFile _ 1 ⟨(⟨S0, [.wr (framesI 1 0 wAB)]⟩ : Fil).stands, []⟩) = _
    rw [this]; rfl
  have hq : seqD (addL ⟨1, 1, 0, false⟩ wAB) D1 = (0, D2) := by
    unfold addL
    rw [seq_one (f := fun d => d.write (1 : Nat) (framesI 1 0 wAB)) h3, if_pos rfl, seq_one (f := fun d => d.sync (1 : Nat)) h4, if_pos rfl]; rfl
  unfold Dk.addV
  rw [if_neg (by decide), if_neg (by rw [hr, hs]; decide), if_neg (by decide), hq, if_pos rfl]
  rfl
theorem w_room : roomF D2 = 881 := by show max (0 : Int) (1000 - (0 : Nat) - (S1.length : Nat)) = 881; rw [S1_len]; rfl
theorem w_off : D2.offc = (0, { D2 with off := true }) := rfl
theorem w_on : ({ D2 with off := true } : Dk).onc (fun _ => 0) = (0, D2) := rfl
def D3 : Dk := ⟨⟨[], []⟩, ⟨S1, []⟩, 1000, false, false, -5⟩
theorem w_open1 : D2.openV = (0, D3, some (⟨1, 1, 2, false⟩, wAB)) := by
  have hb : bestN D2 2 = some (1, 1, wAB) := by
    show updI (updI none 0 (lookI 0 [])) 1 (lookI 1 S1) = _
    rw [look_nil, look_S1]; rfl
  have h1 : D2.vcut (1 : Nat) (119 : Nat) = (0, D2) := vcut_same rfl 1 (by omega) 119 S1_len
  have h2 : D2.sync (1 : Nat) = (0, D3) := by
    rw [sync_eq rfl 1 (by omega), goes_do (by simp [Dk.burns, D2])]; rfl
  have h3 : D3.vcut (0 : Nat) (0 : Nat) = (0, D3) := vcut_same rfl 0 (by omega) 0 rfl
  have hq : seqD (openL 1 (44 + sizeI wAB)) D2 = (0, D3) := by
    unfold openL
    rw [seq_one (f := fun d => d.vcut (1 : Nat) (44 + sizeI wAB : Nat)) h1, if_pos rfl, seq_one (f := fun d => d.sync (1 : Nat)) h2, if_pos rfl, seq_one (f := fun d => d.vcut (1 - (1 : Nat)) 0) h3, if_pos rfl]; rfl
  unfold Dk.openV
  rw [if_neg (by decide), hb]
  dsimp only
  rw [hq, if_pos rfl]; rfl
def D4 : Dk := ⟨⟨S2, []⟩, ⟨S1, [.ct 0]⟩, 1000, false, false, -8⟩
theorem w_comp : D3.compV ⟨1, 1, 2, false⟩ wD = (0, D4, ⟨0, 2, 1, false⟩) := by
  have hr : roomF D3 = 881 := w_room
  have h1 : D3.vcut (0 : Nat) (0 : Nat) = (0, D3) := vcut_same rfl 0 (by omega) 0 rfl
  have h2 : D3.write (0 : Nat) S2 = (0, ⟨⟨[], [.wr S2]⟩, ⟨S1, []⟩, 1000, false, false, -6⟩) := by
    rw [write_eq rfl 0 (by omega) _ (by rw [hr, S2_len]; decide), goes_do (by simp [Dk.burns, D3])]; rfl
  have h3 : (⟨⟨[], [.wr S2]⟩, ⟨S1, []⟩, 1000, false, false, -6⟩ : Dk).sync (0 : Nat) = (0, ⟨⟨S2, []⟩, ⟨S1, []⟩, 1000, false, false, -7⟩) := by
    rw [sync_eq rfl 0 (by omega), goes_do (by simp [Dk.burns])]
    have : (⟨[], [.wr S2]⟩ : Fil).stands = S2 := by rw [stands_wr _ _ (by rw [S2_len]; omega)]; rfl
    show ((0 : Int), Dk.setFile _ 0 ⟨(⟨[], [.wr S2]⟩ : Fil).stands, []⟩) = _
    rw [this]; rfl
  have h4 : (⟨⟨S2, []⟩, ⟨S1, []⟩, 1000, false, false, -7⟩ : Dk).cut (1 : Nat) (0 : Nat) = (0, D4) := by
    rw [cut_eq rfl 1 (by omega) 0 (Nat.zero_le _), goes_do (by simp [Dk.burns])]; rfl
  have hq : seqD (compL ⟨1, 1, 2, false⟩ wD) D3 = (0, D4) := by
    have hcs : compS ⟨1, 1, 2, false⟩ wD = S2 := by
      show headI (1 + 1) ((wD.length : Nat) : Int) ++ framesI (1 + 1) 0 wD = headI 2 1 ++ framesI 2 0 wD
      rw [show (1 + 1 : Int) = 2 from rfl, show ((wD.length : Nat) : Int) = 1 from rfl]
    have hL : compL ⟨1, 1, 2, false⟩ wD = [fun d => d.vcut (0 : Nat) (0 : Nat), fun d => d.write (0 : Nat) S2, fun d => d.sync (0 : Nat), fun d => d.cut (1 : Nat) (0 : Nat)] := by
      unfold compL
      rw [hcs]; rfl
    rw [hL, seq_one (f := fun d => d.vcut (0 : Nat) (0 : Nat)) h1, if_pos rfl, seq_one (f := fun d => d.write (0 : Nat) S2) h2, if_pos rfl, seq_one (f := fun d => d.sync (0 : Nat)) h3, if_pos rfl, seq_one (f := fun d => d.cut (1 : Nat) (0 : Nat)) h4, if_pos rfl]; rfl
  unfold Dk.compV
  rw [if_neg (by decide), if_neg (by decide), if_neg (by decide), if_neg (by rw [hr]; decide), hq, if_pos rfl]
  rfl
def D5 : Dk := ⟨⟨S2, []⟩, ⟨S1, [.ct 0]⟩, 1000, false, true, 1⟩
theorem w_fuse : D4.fuse 1 = (0, D5) := rfl
def D6 : Dk := ⟨⟨S2, [.wr FE]⟩, ⟨S1, [.ct 0]⟩, 1000, true, true, 0⟩
theorem w_add2 : D5.addV ⟨0, 2, 1, false⟩ [[101]] = (8, D6, ⟨0, 2, 1, true⟩) := by
  have hr : roomF D5 = 919 := by show max (0 : Int) (1000 - (S2.length : Nat) - (0 : Nat)) = 919; rw [S2_len]; rfl
  have h1 : D5.write (0 : Nat) FE = (0, ⟨⟨S2, [.wr FE]⟩, ⟨S1, [.ct 0]⟩, 1000, false, true, 0⟩) := by
    rw [write_eq rfl 0 (by omega) _ (by rw [hr, FE_len]; decide), goes_do (by simp [Dk.burns, D5])]; rfl
  have h2 : (⟨⟨S2, [.wr FE]⟩, ⟨S1, [.ct 0]⟩, 1000, false, true, 0⟩ : Dk).sync (0 : Nat) = (8, D6) := by
    rw [sync_eq rfl 0 (by omega), goes_burn ⟨rfl, rfl⟩]; rfl
  have hq : seqD (addL ⟨0, 2, 1, false⟩ [[101]]) D5 = (8, D6) := by
    unfold addL
    rw [seq_one (f := fun d => d.write (0 : Nat) (framesI 2 1 [[101]])) h1, if_pos rfl, seq_one (f := fun d => d.sync (0 : Nat)) h2, if_neg (by decide)]
  unfold Dk.addV
  rw [if_neg (by decide), if_neg (by rw [hr]; decide), if_neg (by decide), hq, if_neg (by decide)]
theorem w_add3 : D6.addV ⟨0, 2, 1, true⟩ [[102]] = (3, D6, ⟨0, 2, 1, true⟩) := rfl
theorem w_off2 : D6.offc = (8, D6) := rfl
def D7 : Dk := ⟨⟨S2 ++ FE, []⟩, ⟨S1, []⟩, 1000, false, false, 0⟩
theorem w_on2 : D6.onc (fun i => if i = 0 then 37 else 0) = (0, D7) := by
  have h : keptF S2 37 [.wr FE] = S2 ++ FE := by
    rw [keptF, if_neg (by omega), keptF]
    show S2 ++ FE.take (37 : Int).toNat = _
    rw [List.take_of_length_le (by rw [FE_len]; decide)]
  show ((0 : Int), (⟨⟨keptF S2 37 [.wr FE], []⟩, ⟨S1, []⟩, 1000, false, false, 0⟩ : Dk)) = _
  rw [h]; rfl
def D8 : Dk := ⟨⟨S2 ++ FE, []⟩, ⟨S1, [.ct 0]⟩, 1000, false, false, -2⟩
theorem w_open2 : D7.openV = (0, D8, some (⟨0, 2, 2, false⟩, wDE)) := by
  have hb : bestN D7 2 = some (0, 2, wDE) := by
    show updI (updI none 0 (lookI 0 (S2 ++ FE))) 1 (lookI 1 S1) = _
    rw [look_S2E, look_S1]; rfl
  have h1 : D7.vcut (0 : Nat) (118 : Nat) = (0, D7) := vcut_same rfl 0 (by omega) 118 (by show (S2 ++ FE).length = 118; rw [List.length_append, S2_len, FE_len])
  have h2 : D7.sync (0 : Nat) = (0, ⟨⟨S2 ++ FE, []⟩, ⟨S1, []⟩, 1000, false, false, -1⟩) := by
    rw [sync_eq rfl 0 (by omega), goes_do (by simp [Dk.burns, D7])]; rfl
  have h3 : (⟨⟨S2 ++ FE, []⟩, ⟨S1, []⟩, 1000, false, false, -1⟩ : Dk).vcut (1 : Nat) (0 : Nat) = (0, D8) := by
    rw [vcut_cut rfl 1 (by omega) 0 (by show 0 < S1.length; rw [S1_len]; omega), goes_do (by simp [Dk.burns])]; rfl
  have hq : seqD (openL 0 (44 + sizeI wDE)) D7 = (0, D8) := by
    have hL : openL 0 (44 + sizeI wDE) = [fun d => d.vcut (0 : Nat) (118 : Nat), fun d => d.sync (0 : Nat), fun d => d.vcut (1 : Nat) (0 : Nat)] := rfl
    rw [hL, seq_one (f := fun d => d.vcut (0 : Nat) (118 : Nat)) h1, if_pos rfl, seq_one (f := fun d => d.sync (0 : Nat)) h2, if_pos rfl, seq_one (f := fun d => d.vcut (1 : Nat) (0 : Nat)) h3, if_pos rfl]; rfl
  unfold Dk.openV
  rw [if_neg (by decide), hb]
  dsimp only
  rw [hq, if_pos rfl]; rfl
end
end Go.Proofs.YtfohemgfiidokaaGreatDoor
