/- The document's disk: Sync, On; a change put behind a file's loose ones. -/
import Derived.Test.YtfohemgfiidokaaRc
import Derived.Test.YtfohemgfiidokaaDq
import Derived.Test.YtfohemgfiidokaaDi
namespace Go.Proofs.Ytfohemgfiidokaa
open Go.RowKit Go.Sort diskKeeps

theorem Try.info83 : (Try.prog.info? 83).map (fun i => (i.zero, i.size, i.bytes)) = some (some (.agg #[.bool false, .string ⟨#[]⟩, .int .i64 0]), 3, 32) := by kernel_rfl
theorem RefAt.settled {w : World} {ρ : Nat → Nat} {R f : Nat} {d : Rk} {xs : List Int} (h : RefAt w ρ R d) (hf : f < 2) :
    RefAt ((w.setCell ⟨R, f * 2, none⟩ (.string (strOfNums xs))).setCell ⟨R, f * 2 + 1, none⟩ (.slice none 0 0)) ρ R (d.setFile f ⟨xs, []⟩) ∧ Mr ρ ρ w ((w.setCell ⟨R, f * 2, none⟩ (.string (strOfNums xs))).setCell ⟨R, f * 2 + 1, none⟩ (.slice none 0 0)) := by
  rw [Nat.mul_comm f 2]
  refine ⟨?_, ((Mr.refl ρ w).set h.role _ _).set h.role _ _⟩
  obtain ⟨lv, c0, c1, -⟩ := h.file f hf
  have hnew : RFil ((w.setCell ⟨R, 2 * f, none⟩ (.string (strOfNums xs))).setCell ⟨R, 2 * f + 1, none⟩ (.slice none 0 0)) ρ R f ⟨xs, []⟩ :=
    ⟨.slice none 0 0, (set_cell (by omega)).trans (set_same c0), set_same ((set_cell (by omega)).trans c1), fun n hn => (by cases hn), World.ownsRow_nil _ _ _ _, fun g hg => by simp [Value.ownBlock] at hg⟩
  have hc : ∀ o, o ≠ 2 * f → o ≠ 2 * f + 1 → ((w.setCell ⟨R, 2 * f, none⟩ (.string (strOfNums xs))).setCell ⟨R, 2 * f + 1, none⟩ (.slice none 0 0)).cell? ⟨R, o, none⟩ = w.cell? ⟨R, o, none⟩ := fun o a b => (set_cell b).trans (set_cell a)
  have hfr : ∀ k, ((w.setCell ⟨R, 2 * f, none⟩ (.string (strOfNums xs))).setCell ⟨R, 2 * f + 1, none⟩ (.slice none 0 0)).heap.size ≤ k → ρ k = 0 := fun k hk => h.fresh k (by rwa [set_size, set_size] at hk)
  have hz : ∀ o, ((w.setCell ⟨R, 2 * f, none⟩ (.string (strOfNums xs))).setCell ⟨R, 2 * f + 1, none⟩ (.slice none 0 0)).frozen? ⟨R, o, none⟩ = false := fun o => set_frozen.trans (set_frozen.trans (h.fz o))
  rcases f with _ | _ | f
  · exact ⟨h.role, hfr, hnew, rfil_set (rfil_set h.f1 h.role (by omega) (by omega)) h.role (by omega) (by omega), (hc _ (by omega) (by omega)).trans h.most, (hc _ (by omega) (by omega)).trans h.left, (hc _ (by omega) (by omega)).trans h.power, hz⟩
  · exact ⟨h.role, hfr, rfil_set (rfil_set h.f0 h.role (by omega) (by omega)) h.role (by omega) (by omega), hnew, (hc _ (by omega) (by omega)).trans h.most, (hc _ (by omega) (by omega)).trans h.left, (hc _ (by omega) (by omega)).trans h.power, hz⟩
  · omega
theorem rmay_zero {p : Bool} {f : Int} (h : rmay p f = 0) : p = true ∧ ∃ k : Nat, k < 2 ∧ f = k := by
  unfold rmay at h
  split at h
  · cases h
  · split at h
    · cases h
    · rename_i h1 h2
      exact ⟨by simpa using h1, f.toNat, by omega, by omega⟩
theorem burn_file (d : Rk) (f : Nat) : d.burn.2.file f = d.file f := by
  unfold Rk.burn
  split
  · rcases f with _ | f <;> rfl
  · dsimp only
    split
    · rcases f with _ | f <;> rfl
    · rfl
theorem burn_ok {d : Rk} (h : ROk d) : ROk d.burn.2 := by
  obtain ⟨h0, h1, h2, h3, h4⟩ := h
  unfold Rk.burn
  split
  · exact ⟨h0, h1, h2, h3, h4⟩
  · dsimp only
    split
    · exact ⟨h0, h1, h2, h3, by show d.left - 1 ≤ _; omega⟩
    · exact ⟨h0, h1, h2, h3, h4⟩
def Rk.sync (d : Rk) (f : Int) : Int × Rk := if rmay d.power f ≠ 0 then (rmay d.power f, d) else if d.burn.1 = true then (8, d.burn.2) else (0, d.burn.2.setFile f.toNat ⟨rstands (d.file f.toNat), []⟩)
set_option maxRecDepth 100000 in
theorem rsync_c {w : World} {ρ : Nat → Nat} {R : Nat} {d : Rk} (h : RefAt w ρ R d) (ok : ROk d) (f : Int) : Calls Try.prog 25 #[.pointer (some ⟨R, 0, none⟩), .int .i64 f] w fun e w' => e = .returned (.int .i64 (d.sync f).1) ∧ RLeft ρ R w (d.sync f).2 w' := by
  have km := rmay_c h f
  unfold Rk.sync
  have H := Lib.hid h
  by_cases hm : rmay d.power f = 0
  · rw [if_neg (by rw [hm]; simp)]
    rw [hm] at km
    obtain ⟨-, k, hk, rfl⟩ := rmay_zero hm
    have kb := burns_c h ok.2.2.2.2
    by_cases hb : d.burn.1 = true
    · rw [if_pos hb]
      rw [hb] at kb
      have KB := Lib.hid kb
      clear kb hb hm h
      go_enter Try.func25, Try.ntmps25
      go_wp2_with fail
      refine km.mono ?_
      rintro e w1 ⟨rfl, hw1⟩
      subst hw1
      go_wp2_with fail
      refine KB.out.mono ?_
      rintro e w2 ⟨rfl, hl⟩
      go_wp2_with fail
      go_ret
      exact ⟨rfl, hl⟩
    · rw [if_neg hb]
      rw [show d.burn.1 = false by simpa using hb] at kb
      have KB := Lib.hid kb
      have f0 : (0 : Int) ≤ k := by omega
      have f1 : (k : Int) < 2 := by omega
      clear kb hb hm h
      go_enter Try.func25, Try.ntmps25
      go_wp2_with fail
      refine km.mono ?_
      rintro e w1 ⟨rfl, hw1⟩
      subst hw1
      go_wp2_with fail
      refine KB.out.mono ?_
      rintro e w2 ⟨rfl, ρ2, h2, m2⟩
      have ks := rstands_c h2 k hk ((burn_ok ok).file k)
      rw [burn_file] at ks
      go_wp2_with fail
      refine ks.mono ?_
      rintro e w3 ⟨rfl, n, rfl⟩
      have h3 := h2.keepN n
      obtain ⟨lv, c0, c1, -⟩ := h3.file k hk
      rw [Nat.mul_comm 2 k] at c0 c1
      have z0 := h3.fz (k * 2)
      have z1 := h3.fz (k * 2 + 1)
      have HS := Lib.hid (h3.settled (xs := rstands (d.file k)) hk)
      have HB := Lib.hid (below_drewN w2 n)
      have HM := Lib.hid m2
      clear h3 ks h2 m2
      generalize w2.drewN n = w3 at *
      go_wp2_with fail
      go_ret
      exact ⟨rfl, ρ2, HS.out.1, (HM.out.trans (Mr.ofBelow ρ2 HB.out)).trans HS.out.2⟩
  · rw [if_pos hm]
    generalize rmay d.power f = z at km hm
    go_enter Try.func25, Try.ntmps25
    go_wp2_with fail
    refine km.mono ?_
    rintro e w1 ⟨rfl, hw1⟩
    subst hw1
    go_wp2_with fail
    go_ret
    exact ⟨rfl, ρ, H.out, Mr.refl ρ _⟩
/-- the first k files settled -/
def Rk.on (d : Rk) (pk : Nat → Int) : Nat → Rk
  | 0 => d
  | k + 1 => (d.on pk k).setFile k ⟨refF (d.file k).s (pk k) (d.file k).l, []⟩
def Rk.onc (d : Rk) (pk : Nat → Int) : Int × Rk := if d.power = true then (3, d) else (0, { d.on pk 2 with power := true, left := -1 })
set_option maxRecDepth 100000 in
set_option maxHeartbeats 1600000 in
theorem ron_c {w : World} {ρ : Nat → Nat} {R : Nat} {d : Rk} (h : RefAt w ρ R d) (ok : ROk d) (p : Option Addr) (len cap : Nat) (pk : Nat → Int) (hp : PicksAt w ρ p len pk) :
    Calls Try.prog 29 #[.pointer (some ⟨R, 0, none⟩), .slice p len cap] w fun e w' => e = .returned (.int .i64 (d.onc pk).1) ∧ RLeft ρ R w (d.onc pk).2 w' := by
  have c6 := h.power
  have H := Lib.hid h
  unfold Rk.onc
  by_cases hpw : d.power = true
  · rw [if_pos hpw]
    rw [hpw] at c6
    clear hpw h
    go_enter Try.func29, Try.ntmps29
    go_wp2_with fail
    go_ret
    exact ⟨rfl, ρ, H.out, Mr.refl ρ w⟩
  · rw [if_neg hpw]
    rw [show d.power = false by simpa using hpw] at c6
    have HP := Lib.hid hp
    clear hp hpw h
    go_enter Try.func29, Try.ntmps29
    go_wp2_with fail
    go_loopw [5] (fun i wr => ∃ k : Nat, k ≤ 2 ∧ i = .int .i64 k ∧ RefAt wr ρ R (d.on pk k) ∧ Mr ρ ρ w wr) (fun i _ => 2 - (intOf i).toNat)
    case atStart => exact ⟨0, by omega, rfl, H.out, Mr.refl _ _⟩
    case round =>
      obtain ⟨k, hk, rfl, hd, hm⟩ := hrel
      obtain ⟨wo, rfl⟩ : ∃ wo : World, wo = wr := ⟨_, rfl⟩
      by_cases hlt : k < 2
      · have k0 : (0 : Int) ≤ k := by omega
        have k1 : (k : Int) < 2 := by omega
        have hfile : (d.on pk k).file k = d.file k := by rcases k with _ | _ | k <;> first | rfl | omega
        obtain ⟨lv, c0, c1, hl⟩ := hd.file k hlt
        rw [hfile] at c0 hl
        rw [Nat.mul_comm 2 k] at c0 c1
        have hsm := ok.file k
        obtain ⟨pv, lcv, ccv, rfl⟩ : ∃ p n c, lv = .slice p n c := by
          obtain ⟨p, c, e, -⟩ := hl.loose
          exact ⟨_, _, _, e⟩
        have kd := fun u hu hu' => done_c (d.file k).s (.slice pv lcv ccv) (d.file k).l u wo.drew hl.loose (by have := hsm.1; omega) hsm.2 hu hu'
        have HKD := Lib.hid kd
        have HD := Lib.hid (hd.keep (Below.refl _ wo).drew)
        have HM := Lib.hid (hm.trans (Mr.ofBelow ρ (Below.refl _ wo).drew))
        have d0 : wo.drew.cell? ⟨R, k * 2, none⟩ = some (.string (strOfNums (d.file k).s)) := c0
        have d1 : wo.drew.cell? ⟨R, k * 2 + 1, none⟩ = some (.slice pv lcv ccv) := c1
        have z0 : wo.drew.frozen? ⟨R, k * 2, none⟩ = false := hd.fz _
        have z1 : wo.drew.frozen? ⟨R, k * 2 + 1, none⟩ = false := hd.fz _
        clear kd c0 c1
        have key : ∀ u : Int, u = pk k → RefAt ((wo.drew.setCell ⟨R, k * 2, none⟩ (.string (strOfNums (refF (d.file k).s u (d.file k).l)))).setCell ⟨R, k * 2 + 1, none⟩ (.slice none 0 0)) ρ R (d.on pk (k + 1)) ∧ Mr ρ ρ w ((wo.drew.setCell ⟨R, k * 2, none⟩ (.string (strOfNums (refF (d.file k).s u (d.file k).l)))).setCell ⟨R, k * 2 + 1, none⟩ (.slice none 0 0)) := fun u hu => by
          subst hu
          have hs := HD.out.settled (xs := refF (d.file k).s (pk k) (d.file k).l) hlt
          exact ⟨hs.1, HM.out.trans hs.2⟩
        have HKEY := Lib.hid key
        clear key hl hsm
        by_cases hln : k < len
        · have hln' : (k : Int) < len := by omega
          obtain ⟨g, o, rfl, hc, hg⟩ := HP.out.1 k hlt hln
          have hc' : wo.cell? ⟨g, o + k, none⟩ = some (.int .i64 (pk k)) := (World.cell?_of_block (hm.block g (block_lt_of_cell hc) (.inl (by omega)))).trans hc
          have hu := HP.out.2.2.1 k hlt
          have hu' := HP.out.2.2.2 k hlt
          clear hc hd hm
          generalize hz : pk k = z at hc' hu hu'
          have HZ := Lib.hid hz
          clear hz
          go_wp2_with fail
          refine wp_region_still_tail 15 (by kernel_rfl) (by kernel_rfl) ?_
          change wpStill _ _ wo.drew (fun a' => wpList _ _ _ _ a' wo.drew) _ _
          clear hc'
          generalize wo.drew = W2 at *
          simp only [List.take_succ_cons, List.take_zero, List.drop_succ_cons, List.drop_zero]
          repeat still_step
          try refine wpStill_nil ?_
          go_wp2_with fail
          refine (HKD.out z hu hu').mono ?_
          rintro e w2 ⟨rfl, hw2⟩
          subst hw2
          go_wp2_with fail
          go_roundw
          case rel => exact ⟨k + 1, by omega, by go_num, (HKEY.out z HZ.out.symm).1, (HKEY.out z HZ.out.symm).2⟩
          case measure => simp [intOf]; omega
        · have hln' : ¬ (k : Int) < len := by omega
          have hz0 := HP.out.2.1 k hlt (by omega)
          have HZ := Lib.hid hz0
          clear hz0 hd hm
          go_wp2_with fail
          refine wp_region_still_tail 15 (by kernel_rfl) (by kernel_rfl) ?_
          change wpStill _ _ wo.drew (fun a' => wpList _ _ _ _ a' wo.drew) _ _
          generalize wo.drew = W2 at *
          simp only [List.take_succ_cons, List.take_zero, List.drop_succ_cons, List.drop_zero]
          repeat still_step
          try refine wpStill_nil ?_
          go_wp2_with fail
          refine (HKD.out 0 (by omega) (by omega)).mono ?_
          rintro e w2 ⟨rfl, hw2⟩
          subst hw2
          go_wp2_with fail
          go_roundw
          case rel => exact ⟨k + 1, by omega, by go_num, (HKEY.out 0 HZ.out.symm).1, (HKEY.out 0 HZ.out.symm).2⟩
          case measure => simp [intOf]; omega
      · have hk2 : k = 2 := by omega
        subst hk2
        have d5 := hd.left
        have z5 := hd.fz 5
        have d6 := hd.power
        have z6 := hd.fz 6
        have HD := Lib.hid (And.intro ((hd.setPower true).setLeft (-1)) ((hm.set hd.role 6 (.bool true)).set hd.role 5 (.int .i64 (-1))))
        clear hd hm
        go_wp2_with fail
        go_ret
        exact ⟨rfl, ρ, HD.out.1, HD.out.2⟩

/-- one more loose change: its row stands where it stood, or in a new block -/
theorem RefAt.appended {W w1 : World} {ρ : Nat → Nat} {R f : Nat} {d : Rk} {lv v' : Value} {c : Chg} (h : RefAt W ρ R d) (hf : f < 2)
    (c0 : W.cell? ⟨R, 2 * f, none⟩ = some (.string (strOfNums (d.file f).s))) (c1 : W.cell? ⟨R, 2 * f + 1, none⟩ = some lv) (hl : RLo W ρ (6 + f) lv (d.file f).l) (hnn : ∀ n, c = .ct n → 0 ≤ n)
    (hown : w1.ownsRow 0 83 3 v' ((d.file f).l.length + 1) (rcells (d.file f).l ++ rcell c)) (hg : W.grownBy w1 lv.ownBlock) (hfr : ∀ g, v'.ownBlock = some g → lv.ownBlock = some g ∨ g = W.heap.size) :
    ∃ ρ', RefAt (w1.setCell ⟨R, 2 * f + 1, none⟩ v') ρ' R (d.setFile f ⟨(d.file f).s, (d.file f).l ++ [c]⟩) ∧ Mr ρ ρ' W (w1.setCell ⟨R, 2 * f + 1, none⟩ v') := by
  have hlt := h.lt
  have hrole := hl.2.2
  have hsz := hg.size
  let ρ' : Nat → Nat := fun k => if v'.ownBlock = some k then 6 + f else ρ k
  have hρ : ∀ g, g < W.heap.size → ρ g ≠ 6 + f → ρ' g = ρ g := fun g hgl hne => by
    show (if v'.ownBlock = some g then 6 + f else ρ g) = ρ g
    rw [if_neg]
    intro e
    rcases hfr g e with e | e
    · exact hne (hrole g e)
    · omega
  have hheap : ∀ g, g < W.heap.size → ρ g ≠ 6 + f → g ≠ R → (w1.setCell ⟨R, 2 * f + 1, none⟩ v').heap[g]? = W.heap[g]? := fun g hgl hne hD => by
    rw [set_heap hD]
    exact hg.block g hgl fun e => hne (hrole g e.symm)
  have hDw : w1.heap[R]? = W.heap[R]? := hg.block R hlt fun e => by have := hrole R e.symm; have := h.role; omega
  have hcell : ∀ o, o ≠ 2 * f + 1 → (w1.setCell ⟨R, 2 * f + 1, none⟩ v').cell? ⟨R, o, none⟩ = W.cell? ⟨R, o, none⟩ := fun o ho => (set_cell ho).trans (World.cell?_of_block hDw)
  have hfz : ∀ o, (w1.setCell ⟨R, 2 * f + 1, none⟩ v').frozen? ⟨R, o, none⟩ = false := fun o => by rw [set_frozen, World.frozen?_of_block hDw]; exact h.fz o
  have hroleD : ρ' R = 5 := by rw [hρ R hlt (by have := h.role; omega)]; exact h.role
  have hfresh : ∀ k, (w1.setCell ⟨R, 2 * f + 1, none⟩ v').heap.size ≤ k → ρ' k = 0 := fun k hk => by
    rw [set_size] at hk
    show (if v'.ownBlock = some k then 6 + f else ρ k) = 0
    rw [if_neg (fun e => by have := own_lt hown e; omega)]
    exact h.fresh k (by omega)
  have hnew : RFil (w1.setCell ⟨R, 2 * f + 1, none⟩ v') ρ' R f ⟨(d.file f).s, (d.file f).l ++ [c]⟩ := by
    refine ⟨v', (hcell _ (by omega)).trans c0, set_same ((World.cell?_of_block hDw).trans c1), fun n hn => ?_, ?_, ?_⟩
    · rcases List.mem_append.1 hn with hn | hn
      · exact hl.1 n hn
      · have : Chg.ct n = c := by simpa using hn
        exact hnn n this.symm
    · have e : (⟨(d.file f).s, (d.file f).l ++ [c]⟩ : Fil).l.length = (d.file f).l.length + 1 := by simp
      have e2 : rcells (⟨(d.file f).s, (d.file f).l ++ [c]⟩ : Fil).l = rcells (d.file f).l ++ rcell c := by
        show rcells ((d.file f).l ++ [c]) = _
        rw [rcells_app]; simp [rcells]
      rw [e, e2]
      exact own_other hown fun g hgb => set_heap fun e => by
        subst e
        rcases hfr g hgb with e | e
        · have := hrole g e; have := h.role; omega
        · omega
    · intro g hgb
      show (if v'.ownBlock = some g then 6 + f else ρ g) = 6 + f
      rw [if_pos hgb]
  have hoth : ∀ f2, f2 < 2 → f2 ≠ f → RFil (w1.setCell ⟨R, 2 * f + 1, none⟩ v') ρ' R f2 (d.file f2) := fun f2 hf2 hne =>
    (h.file f2 hf2).other (fun g hgl hg => ⟨hρ g hgl (by omega), hheap g hgl (by omega) (fun e => by subst e; have := h.role; omega)⟩) (hcell _ (by omega)) (hcell _ (by omega))
  have b1 : RowKit.Below 0 W w1 := (RowKit.Below.refl 0 W).grown hg (Nat.zero_le _) fun _ _ => Nat.zero_le _
  have hmv : Mr ρ ρ' W w1 := by
    refine ⟨b1.os, b1.tape, b1.output, b1.size, fun g hgl => ?_, fun g hgl hr => hg.block g hgl fun e => by have := hrole g e.symm; omega⟩
    show (if v'.ownBlock = some g then 6 + f else ρ g) = ρ g
    split
    · rename_i e
      rcases hfr g e with e | e
      · exact (hrole g e).symm
      · omega
    · rfl
  refine ⟨ρ', ?_, hmv.set hroleD _ _⟩
  rcases f with _ | _ | f
  · exact ⟨hroleD, hfresh, hnew, hoth 1 (by omega) (by omega), (hcell _ (by omega)).trans h.most, (hcell _ (by omega)).trans h.left, (hcell _ (by omega)).trans h.power, hfz⟩
  · exact ⟨hroleD, hfresh, hoth 0 (by omega) (by omega), hnew, (hcell _ (by omega)).trans h.most, (hcell _ (by omega)).trans h.left, (hcell _ (by omega)).trans h.power, hfz⟩
  · omega
end Go.Proofs.Ytfohemgfiidokaa
