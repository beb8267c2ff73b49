/- vault's framed and frames. -/
import Derived.Test.YtfohemgfiidokaaGreatDoorYe
import Derived.Test.YtfohemgfiidokaaGreatDoorMd
namespace Go.Proofs.YtfohemgfiidokaaGreatDoor
open Go.RowKit Go.Sort

theorem rdl_three {w : World} {v1 v2 v3 : Value} {a b c : List Int} (t : TypeId) (h1 : RdB w v1 a) (h2 : RdB w v2 b) (h3 : RdB w v3 c) : RdL (w.alloc (.cells #[v1, v2, v3] t)) (.slice (some ⟨w.heap.size, 0, none⟩) 3 3) [a, b, c] := by
  have hb : Below w.heap.size w (w.alloc (.cells #[v1, v2, v3] t)) := bel_alloc (Below.refl _ _) _
  refine .inr ⟨_, _, 0, 3, rfl, Nat.le_refl _, fun _ => rfl, fun j hj => ?_⟩
  rw [Nat.zero_add]
  rw [cell_of_row _ _ _ _ _ _ (heap_alloc_new _ _)]
  rcases j with _ | _ | _ | j
  · exact ⟨v1, rfl, h1.keep hb⟩
  · exact ⟨v2, rfl, h2.keep hb⟩
  · exact ⟨v3, rfl, h3.keep hb⟩
  · simp at hj; omega

set_option maxRecDepth 100000 in
theorem framed_c (g k : Int) (v : Value) (xs : List Int) (w : World) (h0 : 0 ≤ k) (h1 : k ≤ 1000000000) (hv : RdB w v xs) (hb : Bytes xs) (hl : xs.length ≤ 100000000) (hk : KTab w) :
    Calls Tryz.prog 81 #[.int .u64 g, .int .i64 k, v] w fun e w' => ∃ v', e = .returned v' ∧ RdB w' v' (fchk g k xs) ∧ Below w.heap.size w w' := by
  have ha := fun V => low_c g 8 8 V (.inl ⟨rfl, rfl⟩)
  have hb' := fun V => low_c k 8 8 V (.inl ⟨rfl, rfl⟩)
  have hla := low_length g 8
  have hlb := low_length k 8
  have hba := low_bytes g 8
  have hbb := low_bytes k 8
  have hw : IntKind.u64.wrap k = k := by rw [IntKind.wrap_u64]; omega
  unfold fchk
  generalize low g 8 = a at *
  generalize low k 8 = b at *
  have hall := hba.append (hbb.append hb)
  have hf : [a, b, xs].flatten = a ++ (b ++ xs) := by simp
  have hlen : (a ++ (b ++ xs)).length ≤ 1000000000 := by simp [hla, hlb]; omega
  have hcc := fun V v (h : RdL V v [a, b, xs]) => concat_c v [a, b, xs] V h (by simp) (by rw [hf]; exact hlen)
  rw [hf] at hcc
  have hch := fun V v h1 h2 => check_c v (a ++ (b ++ xs)) V h1 hall (by omega) h2
  generalize a ++ (b ++ xs) = s at *
  generalize chk s = c at *
  have HA := Lib.hid ha; have HB := Lib.hid hb'; have HCC := Lib.hid hcc; have HCH := Lib.hid hch
  clear ha hb' hcc hch hba hbb hall hf hlen
  obtain ⟨p, cp, rfl, hcp⟩ := hv.shape
  go_enter Tryz.func81, Tryz.ntmps81
  go_wp2_with (first
    | (go_at_call 80; (with_reducible refine (HA.out _).mono ?_); rintro e w1 ⟨v1, rfl, hr1, hb1⟩; obtain ⟨p1, cp1, rfl⟩ := hr1.shape; clear HA)
    | (go_at_call 80; (with_reducible refine (HB.out _).mono ?_); rintro e w2 ⟨v2, rfl, hr2, hb2⟩; obtain ⟨p2, cp2, rfl⟩ := hr2.shape; have hb3 := bel_call hb1 hb2; have hr3 := RowO.keep hr1 hb2; have hl3 := rdl_three 40 hr3.rd hr2.rd (hv.keep hb3); rw [hla, hlb] at hl3; have hb4 := bel_alloc hb3 (.cells #[.slice p1 8 cp1, .slice p2 8 cp2, .slice p xs.length cp] 40))
    | (go_at_call 98; go_loud (with_reducible refine (HCC.out _ _ hl3).mono ?_); rintro e w4 ⟨v4, rfl, hr4, hb5⟩; have hb6 := bel_call hb4 hb5)
    | (go_at_call 69; (with_reducible refine (HCH.out _ _ hr4.rd (hk.call hb6)).mono ?_); rintro e w5 ⟨v5, rfl, hr5, hb7⟩))
  go_ret
  exact ⟨_, rfl, hr5, bel_call hb6 hb7⟩

/-- a row of one's own, where another row is turned -/
theorem own_grown_other {w w' : World} {B : Nat} {v : Value} {xs : List Int} (h : RowO w B v xs) {r : Option Nat} (hg : w.grownBy w' r) (hr : ∀ g, r = some g → g < B) : RowO w' B v xs :=
  own_other h fun g hv => hg.block g (own_lt h hv) fun e => by
    have := hr g e.symm
    have := (World.ownsRow.lt h g hv).1
    omega
def Rec (ls : List (List Int)) : Prop := ∀ r ∈ ls, Bytes r ∧ r.length ≤ 1000000
theorem sizeI_take (ls : List (List Int)) (k : Nat) : sizeI (ls.take k) ≤ sizeI ls := by
  have := sizeI_append (ls.take k) (ls.drop k)
  rw [List.take_append_drop] at this; omega

set_option maxRecDepth 100000 in
theorem frames_c (g k : Int) (v : Value) (ls : List (List Int)) (w : World) (h0 : 0 ≤ k) (h1 : k ≤ 1000000) (hv : RdL w v ls) (hls : ∀ r ∈ ls, Bytes r) (hn : ls.length ≤ 1000000) (hl : sizeI ls ≤ 10000000) (hk : KTab w) :
    Calls Tryz.prog 38 #[.int .u64 g, .int .i64 k, v] w fun e w' => ∃ v', e = .returned v' ∧ RowO w' w.heap.size v' (framesI g k ls) ∧ Below w.heap.size w w' := by
  have hvk := fun W (hb : Below w.heap.size w W) => (hv.keep hb).shape
  obtain ⟨a, cap, rfl, hcap, hel⟩ := hv.shape
  have HE := Lib.hid (fun W (hb : Below w.heap.size w W) => show ∀ j, j < ls.length → ∃ g o u, a = some ⟨g, o, none⟩ ∧ W.cell? ⟨g, o + j, none⟩ = some u ∧ RdB W u (ls[j]?.getD []) from by
    obtain ⟨a', cap', e, -, h⟩ := hvk W hb
    cases e
    exact h)
  have HF := Lib.hid (fun k v xs V h0 h1 hv hb hl hk => framed_c g k v xs V h0 h1 hv hb hl hk)
  have HO := Lib.hid (fun (x : Int) V => low_c x 4 4 V (.inr ⟨rfl, rfl⟩))
  clear hvk hel hv
  go_enter Tryz.func38, Tryz.ntmps38
  go_upto_region 2 with fail
  go_loopw [6, 12] (fun b i W => ∃ q : Nat, q ≤ ls.length ∧ i = .int .i64 q ∧ RowO W w.heap.size b (framesI g k (ls.take q)) ∧ Below w.heap.size w W) (fun _ i _ => ls.length - (intOf i).toNat)
  case atStart => exact ⟨0, by omega, rfl, World.ownsRow_nil _ _ _ _, Below.refl _ _⟩
  case round =>
    obtain ⟨q, hq, rfl, hr, hb⟩ := hrel
    by_cases hlq : q < ls.length
    · obtain ⟨gg, o, u, rfl, hcell, hrd⟩ := HE.out _ hb q hlq
      have hts : ls.take (q + 1) = ls.take q ++ [ls[q]?.getD []] := by rw [List.take_succ_eq_append_getElem hlq, List.getElem?_eq_getElem hlq]; rfl
      have hfs := framesI_snoc g (ls.take q) k (ls[q]?.getD [])
      rw [← hts, List.length_take, Nat.min_eq_left (by omega)] at hfs
      have hsz := sizeI_take ls (q + 1)
      rw [hts, sizeI_append] at hsz
      simp only [sizeI] at hsz
      have hfl := framesI_len g (ls.take q) k
      have hbx : Bytes (ls[q]?.getD []) := by rw [List.getElem?_eq_getElem hlq]; exact hls _ (List.getElem_mem _)
      generalize sizeI (ls.take q) = sz at *
      generalize (ls[q]?.getD []) = x at *
      generalize framesI g k (ls.take q) = acc at *
      obtain ⟨p, cp, rfl, hcp⟩ := hrd.shape
      have hw : IntKind.u64.wrap (x.length : Int) = x.length := by rw [IntKind.wrap_u64]; omega
      have hql : (q : Int) < ls.length := by omega
      have hkq : IntKind.i64.wrap (k + q) = k + q := by rw [IntKind.wrap_i64]; omega
      have hL4 := low_length (x.length : Int) 4
      have hB4 := low_bytes (x.length : Int) 4
      have hlow := HO.out (x.length : Int)
      have hrec : recI x = low (x.length : Int) 4 ++ x := rfl
      unfold frameI at hfs
      rw [hrec] at hfs
      generalize low (x.length : Int) 4 = y at *
      have hyx := hB4.append hbx
      have hyl : (y ++ x).length = x.length + 4 := by simp [hL4]; omega
      have hchl : (fchk g (k + q) (y ++ x)).length = 32 := chk_len _
      have hfr := fun V v (h1 : RdB V v (y ++ x)) h2 => HF.out (k + q) v (y ++ x) V (by omega) (by omega) h1 hyx (by omega) h2
      generalize fchk g (k + q) (y ++ x) = c at *
      have HFS := Lib.hid hfs; have HLO := Lib.hid hlow; have HFR := Lib.hid hfr
      clear hfs hlow hfr hts hrec hB4 hyx HO HF
      have hbs := hb.size
      go_upto_region 5 with (first
        | (go_at_call 80; (with_reducible refine (HLO.out _).mono ?_); rintro e w1 ⟨v1, rfl, hr1, hb1⟩; have hrd1 := hrd.keep hb1)
        | (at_builtin; refine wpList_append_rd rfl _ _ rfl wr.heap.size hb1.size _ y rfl hr1 _ x rfl hrd1 (by omega) ?_; intro v2 w2 hr2 hg2; have hb2 := grown_below hr1 hb1 hb1.size hg2))
      have hr' := RowO.keep hr hb2
      have hb' := bel_call hb hb2
      have hs2 := hb2.size
      have hlt0 := fun g hg => own_lt hr (g := g) hg
      clear hrd1 hr1 hb1 hg2 hr
      have HX := Lib.hid (show acc.length + (y ++ x).length ≤ 1000000000 by omega)
      have HX2 := Lib.hid (show (acc ++ (y ++ x)).length + c.length ≤ 1000000000 by rw [List.length_append]; omega)
      clear hyl
      generalize y ++ x = s at *
      obtain ⟨p2, cp2, rfl⟩ := hr2.shape
      go_wp2_with (first
        | (at_builtin; refine wpList_append_rd rfl _ _ rfl w.heap.size hb'.size _ acc rfl hr' _ s rfl hr2.rd HX.out ?_; intro v3 w3 hr3 hg3; have hb3 := grown_below hr' hb' hb'.size hg3; have hr23 := own_grown_other hr2 hg3 hlt0; clear hg3)
        | (go_at_call 81; (with_reducible refine (HFR.out _ _ hr23.rd (hk.call hb3)).mono ?_); rintro e w4 ⟨v4, rfl, hr4, hb4⟩; have hb5 := bel_call hb3 hb4; have hr5 := RowO.keep hr3 hb4)
        | (at_builtin; refine wpList_append_rd rfl _ _ rfl w.heap.size hb5.size _ (acc ++ s) rfl hr5 _ c rfl hr4 HX2.out ?_; intro v6 w6 hr6 hg6; have hb6 := grown_below hr5 hb5 hb5.size hg6))
      exact ⟨⟨q + 1, by omega, by go_num, by rw [HFS.out, ← List.append_assoc]; exact hr6, hb6⟩, by simp [intOf]; omega⟩
    · have hqq : q = ls.length := by omega
      have hql : ¬ (q : Int) < ls.length := by omega
      rw [hqq, List.take_length] at hr
      go_wp2
      go_ret
      exact ⟨_, rfl, hr, hb⟩
end Go.Proofs.YtfohemgfiidokaaGreatDoor
