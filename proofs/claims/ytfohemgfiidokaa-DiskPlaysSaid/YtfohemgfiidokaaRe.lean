/- The document's disk: Cut, Write. -/
import Derived.Test.YtfohemgfiidokaaRd
import Derived.Test.YtfohemgfiidokaaDk
namespace Go.Proofs.Ytfohemgfiidokaa
open Go.RowKit Go.Sort diskKeeps

def Rk.put (d : Rk) (f : Nat) (c : Chg) : Rk := d.setFile f ⟨(d.file f).s, (d.file f).l ++ [c]⟩
def Rk.cut (d : Rk) (f n : Int) : Int × Rk :=
  if rmay d.power f ≠ 0 then (rmay d.power f, d) else if n < 0 ∨ (rstands (d.file f.toNat)).length < n then (1, d) else if d.burn.1 = true then (8, d.burn.2) else (0, d.burn.2.put f.toNat (.ct n))
set_option maxRecDepth 100000 in
set_option maxHeartbeats 1600000 in
theorem rcut_c {w : World} {ρ : Nat → Nat} {R : Nat} {d : Rk} (h : RefAt w ρ R d) (ok : ROk d) (F : Int) (n : Int) :
    Calls Try.prog 24 #[.pointer (some ⟨R, 0, none⟩), .int .i64 F, .int .i64 n] w fun e w' => e = .returned (.int .i64 (d.cut F n).1) ∧ RLeft ρ R w (d.cut F n).2 w' := by
  have km := rmay_c h F
  unfold Rk.cut
  have H := Lib.hid h
  by_cases hm : rmay d.power F = 0
  · rw [if_neg (by rw [hm]; simp)]
    rw [hm] at km
    obtain ⟨-, f, hf, rfl⟩ := rmay_zero hm
    have hto : ((f : Int)).toNat = f := Int.toNat_natCast f
    rw [hto]
    clear hto
    have f0 : (0 : Int) ≤ f := by omega
    have f1 : (f : Int) < 2 := by omega
    have ks := fun n => rstands_c (h.keepN n) f hf (ok.file f)
    have hsz := strOfNums_size (rstands (d.file f))
    by_cases hn : n < 0
    · rw [if_pos (.inl hn)]
      clear hm h ks
      go_enter Try.func24, Try.ntmps24
      go_wp2_with fail
      refine km.mono ?_
      rintro e w1 ⟨rfl, hw1⟩
      subst hw1
      go_wp2_with fail
      go_ret
      exact ⟨rfl, ρ, H.out, Mr.refl ρ _⟩
    have ks0 := rstands_c h f hf (ok.file f)
    generalize hX : rstands (d.file f) = X at *
    have hn' : ¬ n < 0 := hn
    by_cases hr : (X.length : Int) < n
    · rw [if_pos (.inr hr)]
      clear hm h ks
      go_enter Try.func24, Try.ntmps24
      go_wp2_with fail
      refine km.mono ?_
      rintro e w1 ⟨rfl, hw1⟩
      subst hw1
      go_wp2_with fail
      refine ks0.mono ?_
      rintro e w2 ⟨rfl, q, rfl⟩
      go_wp2_with fail
      go_ret
      exact ⟨rfl, ρ, H.out.keepN q, Mr.ofBelow ρ (below_drewN _ q)⟩
    rw [if_neg (by intro e; rcases e with e | e; exact hn e; exact hr e)]
    have hr' : ¬ (X.length : Int) < n := hr
    have kb := fun q => burns_c (h.keepN q) ok.2.2.2.2
    by_cases hb : d.burn.1 = true
    · rw [if_pos hb]
      rw [hb] at kb
      have KB := Lib.hid kb
      clear kb hb hm h
      go_enter Try.func24, Try.ntmps24
      go_wp2_with fail
      refine km.mono ?_
      rintro e w1 ⟨rfl, hw1⟩
      subst hw1
      go_wp2_with fail
      refine ks0.mono ?_
      rintro e w2 ⟨rfl, q, rfl⟩
      go_wp2_with fail
      refine (KB.out q).mono ?_
      rintro e w3 ⟨rfl, ρ2, h2, m2⟩
      go_wp2_with fail
      go_ret
      exact ⟨rfl, ρ2, h2, (Mr.ofBelow ρ (below_drewN _ q)).trans m2⟩
    · rw [if_neg hb]
      rw [show d.burn.1 = false by simpa using hb] at kb
      have KB := Lib.hid kb
      have hokb := (burn_ok ok).file f
      clear kb hb hm h
      obtain ⟨i0, hi, hz0, hz1, hz2⟩ := info_parts Try.info83
      go_enter Try.func24, Try.ntmps24
      go_wp2_with fail
      refine km.mono ?_
      rintro e w1 ⟨rfl, hw1⟩
      subst hw1
      go_wp2_with fail
      refine ks0.mono ?_
      rintro e w2 ⟨rfl, q, rfl⟩
      go_wp2_with fail
      refine (KB.out q).mono ?_
      rintro e w2 ⟨rfl, ρ2, h2, m2⟩
      have HM := Lib.hid ((Mr.ofBelow ρ (below_drewN _ q)).trans m2)
      clear m2
      obtain ⟨lv, c0, c1, hl⟩ := h2.file f hf
      obtain ⟨pv, lcv, ccv, rfl⟩ : ∃ p n c, lv = .slice p n c := by
        obtain ⟨p, c, e, -⟩ := hl.loose
        exact ⟨_, _, _, e⟩
      have hll := hokb.2
      go_wp2_with fail
      have c1' : w2.cell? ⟨R, f * 2 + 1, none⟩ = some (.slice pv lcv ccv) := by rw [Nat.mul_comm]; exact c1
      have hbW : Below w2.heap.size w2 (w2.drew.alloc (.cells #[.bool true, .string ⟨#[]⟩, .int .i64 n] 83)) := bel_alloc (Below.refl _ _).drew _
      have hdW := h2.keep hbW
      have hlW : RLo (w2.drew.alloc (.cells #[.bool true, .string ⟨#[]⟩, .int .i64 n] 83)) ρ2 (6 + f) (.slice pv lcv ccv) (d.burn.2.file f).l := ⟨hl.1, ownsRow_keep hl.2.1 hbW, hl.2.2⟩
      have hnews : ∀ j u, ([.bool true, .string ⟨#[]⟩, .int .i64 n] : List Value)[j]? = some u → (w2.drew.alloc (.cells #[.bool true, .string ⟨#[]⟩, .int .i64 n] 83)).cell? ((⟨w2.heap.size, 0, none⟩ : Addr).add j) = some u := fun j u hu => by
        have e : (w2.drew.alloc (.cells #[.bool true, .string ⟨#[]⟩, .int .i64 n] 83)).cell? ⟨w2.heap.size, j, none⟩ = (#[.bool true, .string ⟨#[]⟩, .int .i64 n] : Array Value)[j]? := cell_of_row _ _ j _ _ _ (heap_alloc_new w2.drew _)
        rw [Addr.add_lit, Nat.zero_add, e]
        simpa using hu
      have hlt := h2.lt
      have hfz := h2.fz (f * 2 + 1)
      have HH := Lib.hid (And.intro h2 (And.intro hl (And.intro hdW hlW)))
      clear h2 hl hdW hlW c1
      refine wp_region_last (S := fun w' => w'.cell? ⟨R, f * 2 + 1, none⟩ = some (.slice pv lcv ccv)) 17 (by kernel_rfl) c1' (fun hHeld => ?_)
      refine wpAnyT_take 0 (oi := ?_) (v := ?_) ?_ (by kernel_rfl) (by kernel_rfl) (by kernel_rfl) (by kernel_rfl) (by kernel_rfl) ?_ (Or.inl ⟨?_, ?_⟩) (by assumption) ?_
      rotate_left 2
      · simp only [List.getElem?_toArray, List.getElem?_cons_zero]; rfl
      · exact fun _ _ _ h => h
      · rfl
      · (intro w hSw; (try dsimp only at hSw); go_simp) <;> with_reducible rfl
      try simp only [Act.put, List.setIfInBounds_toArray, List.set_cons_zero, List.set_cons_succ]
      refine wpAnyT_take 1 (oi := ?_) (v := ?_) ?_ (by kernel_rfl) (by kernel_rfl) (by kernel_rfl) (by kernel_rfl) (by kernel_rfl) ?_ (Or.inl ⟨?_, ?_⟩) (by assumption) ?_
      rotate_left 2
      · simp only [List.getElem?_toArray, List.getElem?_cons_succ, List.getElem?_cons_zero]; rfl
      · exact fun _ _ _ h => h
      · rfl
      · (intro w hSw; (try dsimp only at hSw); go_simp) <;> with_reducible rfl
      try simp only [Act.put, List.setIfInBounds_toArray, List.set_cons_zero, List.set_cons_succ]
      refine wpAnyT_take 2 (oi := ?_) (v := ?_) ?_ (by kernel_rfl) (by kernel_rfl) (by kernel_rfl) (by kernel_rfl) (by kernel_rfl) ?_ (Or.inl ⟨?_, ?_⟩) (by assumption) ?_
      rotate_left 2
      · simp only [List.getElem?_toArray, List.getElem?_cons_succ, List.getElem?_cons_zero]; rfl
      · exact fun _ _ _ h => h
      · rfl
      · (intro w hSw; (try dsimp only at hSw); go_simp) <;> with_reducible rfl
      try simp only [Act.put, List.setIfInBounds_toArray, List.set_cons_zero, List.set_cons_succ]
      refine wpAnyT_take 3 (oi := ?_) (v := ?_) ?_ (by kernel_rfl) (by kernel_rfl) (by kernel_rfl) (by kernel_rfl) (by kernel_rfl) ?_ (Or.inl ⟨?_, ?_⟩) (by assumption) ?_
      rotate_left 2
      · simp only [List.getElem?_toArray, List.getElem?_cons_succ, List.getElem?_cons_zero]; rfl
      · exact fun _ _ _ h => h
      · rfl
      · (intro w hSw; (try dsimp only at hSw); go_simp) <;> with_reducible rfl
      try simp only [Act.put, List.setIfInBounds_toArray, List.set_cons_zero, List.set_cons_succ]
      refine wpAnyT_take 4 (oi := ?_) (v := ?_) ?_ (by kernel_rfl) (by kernel_rfl) (by kernel_rfl) (by kernel_rfl) (by kernel_rfl) ?_ (Or.inl ⟨?_, ?_⟩) (by assumption) ?_
      rotate_left 2
      · simp only [List.getElem?_toArray, List.getElem?_cons_succ, List.getElem?_cons_zero]; rfl
      · exact fun _ _ _ h => h
      · rfl
      · (intro w hSw; (try dsimp only at hSw); go_simp) <;> with_reducible rfl
      try simp only [Act.put, List.setIfInBounds_toArray, List.set_cons_zero, List.set_cons_succ]
      refine wpAnyT_take 5 (oi := ?_) (v := ?_) ?_ (by kernel_rfl) (by kernel_rfl) (by kernel_rfl) (by kernel_rfl) (by kernel_rfl) ?_ (Or.inl ⟨?_, ?_⟩) (by assumption) ?_
      rotate_left 2
      · simp only [List.getElem?_toArray, List.getElem?_cons_succ, List.getElem?_cons_zero]; rfl
      · exact fun _ _ _ h => h
      · rfl
      · (intro w hSw; (try dsimp only at hSw); go_simp) <;> with_reducible rfl
      try simp only [Act.put, List.setIfInBounds_toArray, List.set_cons_zero, List.set_cons_succ]
      refine wpAnyT_take 6 (oi := ?_) (v := ?_) ?_ (by kernel_rfl) (by kernel_rfl) (by kernel_rfl) (by kernel_rfl) (by kernel_rfl) ?_ (Or.inl ⟨?_, ?_⟩) (by assumption) ?_
      rotate_left 2
      · simp only [List.getElem?_toArray, List.getElem?_cons_succ, List.getElem?_cons_zero]; rfl
      · exact fun _ _ _ h => h
      · rfl
      · (intro w hSw; (try dsimp only at hSw); go_simp) <;> with_reducible rfl
      try simp only [Act.put, List.setIfInBounds_toArray, List.set_cons_zero, List.set_cons_succ]
      refine wpAnyT_take 7 (oi := ?_) (v := ?_) ?_ (by kernel_rfl) (by kernel_rfl) (by kernel_rfl) (by kernel_rfl) (by kernel_rfl) ?_ (Or.inl ⟨?_, ?_⟩) (by assumption) ?_
      rotate_left 2
      · simp only [List.getElem?_toArray, List.getElem?_cons_succ, List.getElem?_cons_zero]; rfl
      · exact fun _ _ _ h => h
      · rfl
      · (intro w hSw; (try dsimp only at hSw); go_simp) <;> with_reducible rfl
      try simp only [Act.put, List.setIfInBounds_toArray, List.set_cons_zero, List.set_cons_succ]
      refine wpAnyT_take 8 (oi := ?_) (v := ?_) ?_ (by kernel_rfl) (by kernel_rfl) (by kernel_rfl) (by kernel_rfl) (by kernel_rfl) ?_ (Or.inl ⟨?_, ?_⟩) (by assumption) ?_
      rotate_left 2
      · simp only [List.getElem?_toArray, List.getElem?_cons_succ, List.getElem?_cons_zero]; rfl
      · exact fun _ _ _ h => h
      · rfl
      · (intro w hSw; (try dsimp only at hSw); go_simp) <;> with_reducible rfl
      try simp only [Act.put, List.setIfInBounds_toArray, List.set_cons_zero, List.set_cons_succ]
      refine wpAnyT_take 9 (oi := ?_) (v := ?_) ?_ (by kernel_rfl) (by kernel_rfl) (by kernel_rfl) (by kernel_rfl) (by kernel_rfl) ?_ (Or.inl ⟨?_, ?_⟩) (by assumption) ?_
      rotate_left 2
      · simp only [List.getElem?_toArray, List.getElem?_cons_succ, List.getElem?_cons_zero]; rfl
      · exact fun _ _ _ h => h
      · rfl
      · (intro w hSw; (try dsimp only at hSw); go_simp) <;> with_reducible rfl
      try simp only [Act.put, List.setIfInBounds_toArray, List.set_cons_zero, List.set_cons_succ]
      refine wpAnyT_take 10 (oi := ?_) (v := ?_) ?_ (by kernel_rfl) (by kernel_rfl) (by kernel_rfl) (by kernel_rfl) (by kernel_rfl) ?_ (Or.inl ⟨?_, ?_⟩) (by assumption) ?_
      rotate_left 2
      · simp only [List.getElem?_toArray, List.getElem?_cons_succ, List.getElem?_cons_zero]; rfl
      · exact fun _ _ _ h => h
      · rfl
      · (intro w hSw; (try dsimp only at hSw); go_simp) <;> with_reducible rfl
      try simp only [Act.put, List.setIfInBounds_toArray, List.set_cons_zero, List.set_cons_succ]
      refine wpAnyT_take 13 (oi := ?_) (v := ?_) ?_ (by kernel_rfl) (by kernel_rfl) (by kernel_rfl) (by kernel_rfl) (by kernel_rfl) ?_ (Or.inl ⟨?_, ?_⟩) (by assumption) ?_
      rotate_left 2
      · simp only [List.getElem?_toArray, List.getElem?_cons_succ, List.getElem?_cons_zero]; rfl
      · exact fun _ _ _ h => h
      · rfl
      · (intro w hSw; (try dsimp only at hSw); go_simp) <;> with_reducible rfl
      try simp only [Act.put, List.setIfInBounds_toArray, List.set_cons_zero, List.set_cons_succ]
      refine wpAnyT_take 14 (oi := ?_) (v := ?_) ?_ (by kernel_rfl) (by kernel_rfl) (by kernel_rfl) (by kernel_rfl) (by kernel_rfl) ?_ (Or.inl ⟨?_, ?_⟩) (by assumption) ?_
      rotate_left 2
      · simp only [List.getElem?_toArray, List.getElem?_cons_succ, List.getElem?_cons_zero]; rfl
      · exact fun _ _ _ h => h
      · rfl
      · (intro w hSw; (try dsimp only at hSw); go_simp) <;> with_reducible rfl
      try simp only [Act.put, List.setIfInBounds_toArray, List.set_cons_zero, List.set_cons_succ]
      refine wpAnyT_step 11 (o := ?_) (by kernel_rfl) ?_ (fun K hK => ?_)
      rotate_left 1
      · simp only [List.getElem?_toArray, List.getElem?_cons_succ, List.getElem?_cons_zero]; rfl
      go_simp
      refine hK.out _ _ (fun _ => (hbW.cell hlt).trans c1') (fun hH => ?_)
      clear hHeld; have hHeld := hH (by decide); clear hH hK K
      try simp only [Act.put, List.setIfInBounds_toArray, List.set_cons_zero, List.set_cons_succ]
      refine wpAnyT_step 12 (o := ?_) (by kernel_rfl) ?_ (fun K hK => ?_)
      rotate_left 1
      · simp only [List.getElem?_toArray, List.getElem?_cons_succ, List.getElem?_cons_zero]; rfl
      rw [if_pos (by rfl)]
      refine wp_append_fresh _ _ 61 rfl 0 83 i0 (.agg #[.bool false, .string ⟨#[]⟩, .int .i64 0]) 3 32 Try.underlying61 hi hz0 hz1 hz2 rfl (by decide) (.slice pv lcv ccv) (d.burn.2.file f).l.length (rcells (d.burn.2.file f).l) rfl HH.out.2.2.2.2.1 ⟨w2.heap.size, 0, none⟩ 1 1 [.bool true, .string ⟨#[]⟩, .int .i64 n] rfl rfl hnews (by simp [Value.oneCell']) (by unfold maxLen; omega) (by omega) (by omega) ?_
      intro v' w1 hown' hgrow hfr
      have hDw := hgrow.block R (by simp; omega) (fun e => by have := HH.out.2.1.2.2 R e.symm; have := HH.out.1.role; omega)
      have d1 : w1.cell? ⟨R, f * 2 + 1, none⟩ = some (.slice pv lcv ccv) := (World.cell?_of_block hDw).trans ((World.cell?_of_block (hbW.block R hlt)).trans c1')
      have z1 : w1.frozen? ⟨R, f * 2 + 1, none⟩ = false := (World.frozen?_of_block hDw).trans (HH.out.2.2.1.fz _)
      obtain ⟨p', cap', rfl⟩ := own_shape hown'
      refine hK.out _ _ (fun _ => d1) (fun hH => ?_)
      clear hHeld; have hHeld := hH (by decide); clear hH hK K
      try simp only [Act.put, List.setIfInBounds_toArray, List.set_cons_zero, List.set_cons_succ]
      refine wpAnyT_take 15 (oi := ?_) (v := ?_) ?_ (by kernel_rfl) (by kernel_rfl) (by kernel_rfl) (by kernel_rfl) (by kernel_rfl) ?_ (Or.inl ⟨?_, ?_⟩) (by assumption) ?_
      rotate_left 2
      · simp only [List.getElem?_toArray, List.getElem?_cons_succ, List.getElem?_cons_zero]; rfl
      · exact fun _ _ _ h => h
      · rfl
      · (intro w hSw; (try dsimp only at hSw); go_simp) <;> with_reducible rfl
      try simp only [Act.put, List.setIfInBounds_toArray, List.set_cons_zero, List.set_cons_succ]
      refine wpAnyT_take 16 (oi := ?_) (v := ?_) ?_ (by kernel_rfl) (by kernel_rfl) (by kernel_rfl) (by kernel_rfl) (by kernel_rfl) ?_ (Or.inl ⟨?_, ?_⟩) (by assumption) ?_
      rotate_left 2
      · simp only [List.getElem?_toArray, List.getElem?_cons_succ, List.getElem?_cons_zero]; rfl
      · exact fun _ _ _ h => h
      · rfl
      · (intro w hSw; (try dsimp only at hSw); go_simp) <;> with_reducible rfl
      try simp only [Act.put, List.setIfInBounds_toArray, List.set_cons_zero, List.set_cons_succ]
      refine wpAnyT_step 17 (o := ?_) (by kernel_rfl) ?_ (fun K hK => ?_)
      rotate_left 1
      · simp only [List.getElem?_toArray, List.getElem?_cons_succ, List.getElem?_cons_zero]; rfl
      go_simp
      refine hK.out _ _ (fun hx => absurd hx (by decide)) (fun _ => ?_)
      clear hHeld hK K
      refine wpAnyT_done (by kernel_rfl) ?_ _
      try simp only [Act.put, List.setIfInBounds_toArray, List.set_cons_zero, List.set_cons_succ]
      go_wp2_with fail
      go_ret
      obtain ⟨ρ', r1, r2⟩ := HH.out.2.2.1.appended (c := .ct n) hf ((hbW.cell hlt).trans c0) (by rw [Nat.mul_comm]; exact (hbW.cell hlt).trans c1') HH.out.2.2.2 (fun m hm => by injection hm with hm; omega) hown' hgrow hfr
      rw [Nat.mul_comm 2 f] at r1 r2
      exact ⟨rfl, ρ', r1, (HM.out.trans (Mr.ofBelow ρ2 hbW)).trans r2⟩
  · rw [if_pos hm]
    generalize rmay d.power F = z at km hm
    clear h
    go_enter Try.func24, Try.ntmps24
    go_wp2_with fail
    refine km.mono ?_
    rintro e w1 ⟨rfl, hw1⟩
    subst hw1
    go_wp2_with fail
    go_ret
    exact ⟨rfl, ρ, H.out, Mr.refl ρ _⟩
def Rk.write (d : Rk) (f : Int) (b : List Int) : Int × Rk :=
  if rmay d.power f ≠ 0 then (rmay d.power f, d) else if rroomF d < b.length then (7, d) else if d.burn.1 = true then (8, d.burn.2) else (0, d.burn.2.put f.toNat (.wr b))
set_option maxRecDepth 100000 in
set_option maxHeartbeats 1600000 in
theorem rwrite_c {w : World} {ρ : Nat → Nat} {R : Nat} {d : Rk} (h : RefAt w ρ R d) (ok : ROk d) (F : Int) (v : Value) (b : List Int) (hv : RdS w ρ v b) (hbl : b.length ≤ 1000000000) :
    Calls Try.prog 30 #[.pointer (some ⟨R, 0, none⟩), .int .i64 F, v] w fun e w' => e = .returned (.int .i64 (d.write F b).1) ∧ RLeft ρ R w (d.write F b).2 w' := by
  obtain ⟨p, cap, rfl⟩ := hv.shape
  have km := rmay_c h F
  unfold Rk.write
  have H := Lib.hid h
  by_cases hm : rmay d.power F = 0
  · rw [if_neg (by rw [hm]; simp)]
    rw [hm] at km
    obtain ⟨-, f, hf, rfl⟩ := rmay_zero hm
    have hto : ((f : Int)).toNat = f := Int.toNat_natCast f
    rw [hto]
    clear hto
    have f0 : (0 : Int) ≤ f := by omega
    have f1 : (f : Int) < 2 := by omega
    have ks0 := rroom_c h ok
    generalize hX : rroomF d = X at *
    by_cases hr : X < (b.length : Int)
    · rw [if_pos hr]
      clear hm h
      go_enter Try.func30, Try.ntmps30
      go_wp2_with fail
      refine km.mono ?_
      rintro e w1 ⟨rfl, hw1⟩
      subst hw1
      go_wp2_with fail
      refine ks0.mono ?_
      rintro e w2 ⟨rfl, q, rfl⟩
      go_wp2_with fail
      go_ret
      exact ⟨rfl, ρ, H.out.keepN q, Mr.ofBelow ρ (below_drewN _ q)⟩
    rw [if_neg hr]
    have hr' : ¬ X < (b.length : Int) := hr
    have kb := fun q => burns_c (h.keepN q) ok.2.2.2.2
    by_cases hb : d.burn.1 = true
    · rw [if_pos hb]
      rw [hb] at kb
      have KB := Lib.hid kb
      clear kb hb hm h
      go_enter Try.func30, Try.ntmps30
      go_wp2_with fail
      refine km.mono ?_
      rintro e w1 ⟨rfl, hw1⟩
      subst hw1
      go_wp2_with fail
      refine ks0.mono ?_
      rintro e w2 ⟨rfl, q, rfl⟩
      go_wp2_with fail
      refine (KB.out q).mono ?_
      rintro e w3 ⟨rfl, ρ2, h2, m2⟩
      go_wp2_with fail
      go_ret
      exact ⟨rfl, ρ2, h2, (Mr.ofBelow ρ (below_drewN _ q)).trans m2⟩
    · rw [if_neg hb]
      rw [show d.burn.1 = false by simpa using hb] at kb
      have KB := Lib.hid kb
      have hokb := (burn_ok ok).file f
      clear kb hb hm h
      obtain ⟨i0, hi, hz0, hz1, hz2⟩ := info_parts Try.info83
      go_enter Try.func30, Try.ntmps30
      go_wp2_with fail
      refine km.mono ?_
      rintro e w1 ⟨rfl, hw1⟩
      subst hw1
      go_wp2_with fail
      refine ks0.mono ?_
      rintro e w2 ⟨rfl, q, rfl⟩
      go_wp2_with fail
      refine (KB.out q).mono ?_
      rintro e w2 ⟨rfl, ρ2, h2, m2⟩
      have HM := Lib.hid ((Mr.ofBelow ρ (below_drewN _ q)).trans m2)
      clear m2
      obtain ⟨lv, c0, c1, hl⟩ := h2.file f hf
      obtain ⟨pv, lcv, ccv, rfl⟩ : ∃ p n c, lv = .slice p n c := by
        obtain ⟨p, c, e, -⟩ := hl.loose
        exact ⟨_, _, _, e⟩
      have hll := hokb.2
      have hrd2 : RdS w2 ρ2 (.slice p b.length cap) b := by
        rcases hv with hx | ⟨ax, gx, ox, cx, x1, x2, x3, x4⟩
        · exact .inl hx
        · refine .inr ⟨ax, gx, ox, cx, x1, x2, fun h0 => ⟨(x3 h0).1, (HM.out.role gx (block_lt_of_cell (x4 0 h0))).trans (x3 h0).2⟩, fun j hj => ?_⟩
          rw [World.cell?_of_block (HM.out.block gx (block_lt_of_cell (x4 j hj)) (.inl (by rw [(x3 (by omega)).2]; omega)))]
          exact x4 j hj
      have HRD := Lib.hid hrd2
      have HV := Lib.hid (fun W (hW : Below w2.heap.size w2 W) => rd_text (hrd2.rdb.keep hW))
      clear hv hrd2
      go_wp2_with fail
      have c1' : w2.cell? ⟨R, f * 2 + 1, none⟩ = some (.slice pv lcv ccv) := by rw [Nat.mul_comm]; exact c1
      have hbW : Below w2.heap.size w2 (w2.drew.alloc (.cells #[.bool false, .string (strOfNums b), .int .i64 0] 83)) := bel_alloc (Below.refl _ _).drew _
      have hdW := h2.keep hbW
      have hlW : RLo (w2.drew.alloc (.cells #[.bool false, .string (strOfNums b), .int .i64 0] 83)) ρ2 (6 + f) (.slice pv lcv ccv) (d.burn.2.file f).l := ⟨hl.1, ownsRow_keep hl.2.1 hbW, hl.2.2⟩
      have hnews : ∀ j u, ([.bool false, .string (strOfNums b), .int .i64 0] : List Value)[j]? = some u → (w2.drew.alloc (.cells #[.bool false, .string (strOfNums b), .int .i64 0] 83)).cell? ((⟨w2.heap.size, 0, none⟩ : Addr).add j) = some u := fun j u hu => by
        have e : (w2.drew.alloc (.cells #[.bool false, .string (strOfNums b), .int .i64 0] 83)).cell? ⟨w2.heap.size, j, none⟩ = (#[.bool false, .string (strOfNums b), .int .i64 0] : Array Value)[j]? := cell_of_row _ _ j _ _ _ (heap_alloc_new w2.drew _)
        rw [Addr.add_lit, Nat.zero_add, e]
        simpa using hu
      have hlt := h2.lt
      have hfz := h2.fz (f * 2 + 1)
      have HH := Lib.hid (And.intro h2 (And.intro hl (And.intro hdW hlW)))
      clear h2 hl hdW hlW c1
      refine wp_region_last (S := fun w' => w'.cell? ⟨R, f * 2 + 1, none⟩ = some (.slice pv lcv ccv) ∧ (convert 33 9 (.slice p b.length cap)).run Try.prog w' = .ok (.string (strOfNums b)) w') 18 (by kernel_rfl) ⟨c1', HV.out _ (Below.refl _ _).drew⟩ (fun hHeld => ?_)
      refine wpAnyT_take 0 (oi := ?_) (v := ?_) ?_ (by kernel_rfl) (by kernel_rfl) (by kernel_rfl) (by kernel_rfl) (by kernel_rfl) ?_ (Or.inl ⟨?_, ?_⟩) (by assumption) ?_
      rotate_left 2
      · simp only [List.getElem?_toArray, List.getElem?_cons_zero]; rfl
      · exact fun _ _ _ h => h
      · rfl
      · (intro w hSw; (try dsimp only at hSw); go_simp) <;> with_reducible rfl
      try simp only [Act.put, List.setIfInBounds_toArray, List.set_cons_zero, List.set_cons_succ]
      refine wpAnyT_take 1 (oi := ?_) (v := ?_) ?_ (by kernel_rfl) (by kernel_rfl) (by kernel_rfl) (by kernel_rfl) (by kernel_rfl) ?_ (Or.inl ⟨?_, ?_⟩) (by assumption) ?_
      rotate_left 2
      · simp only [List.getElem?_toArray, List.getElem?_cons_succ, List.getElem?_cons_zero]; rfl
      · exact fun _ _ _ h => h
      · rfl
      · (intro w hSw; (try dsimp only at hSw); go_simp) <;> with_reducible rfl
      try simp only [Act.put, List.setIfInBounds_toArray, List.set_cons_zero, List.set_cons_succ]
      refine wpAnyT_take 2 (oi := ?_) (v := ?_) ?_ (by kernel_rfl) (by kernel_rfl) (by kernel_rfl) (by kernel_rfl) (by kernel_rfl) ?_ (Or.inl ⟨?_, ?_⟩) (by assumption) ?_
      rotate_left 2
      · simp only [List.getElem?_toArray, List.getElem?_cons_succ, List.getElem?_cons_zero]; rfl
      · exact fun _ _ _ h => h
      · rfl
      · (intro w hSw; (try dsimp only at hSw); go_simp) <;> with_reducible rfl
      try simp only [Act.put, List.setIfInBounds_toArray, List.set_cons_zero, List.set_cons_succ]
      refine wpAnyT_take 3 (oi := ?_) (v := ?_) ?_ (by kernel_rfl) (by kernel_rfl) (by kernel_rfl) (by kernel_rfl) (by kernel_rfl) ?_ (Or.inl ⟨?_, ?_⟩) (by assumption) ?_
      rotate_left 2
      · simp only [List.getElem?_toArray, List.getElem?_cons_succ, List.getElem?_cons_zero]; rfl
      · exact fun _ _ _ h => h
      · rfl
      · (intro w hSw; (try dsimp only at hSw); go_simp) <;> with_reducible rfl
      try simp only [Act.put, List.setIfInBounds_toArray, List.set_cons_zero, List.set_cons_succ]
      refine wpAnyT_take 4 (oi := ?_) (v := ?_) ?_ (by kernel_rfl) (by kernel_rfl) (by kernel_rfl) (by kernel_rfl) (by kernel_rfl) ?_ (Or.inl ⟨?_, ?_⟩) (by assumption) ?_
      rotate_left 2
      · simp only [List.getElem?_toArray, List.getElem?_cons_succ, List.getElem?_cons_zero]; rfl
      · exact fun _ _ _ h => h
      · rfl
      · (intro w hSw; (try dsimp only at hSw); go_simp) <;> with_reducible rfl
      try simp only [Act.put, List.setIfInBounds_toArray, List.set_cons_zero, List.set_cons_succ]
      refine wpAnyT_take 5 (oi := ?_) (v := ?_) ?_ (by kernel_rfl) (by kernel_rfl) (by kernel_rfl) (by kernel_rfl) (by kernel_rfl) ?_ (Or.inl ⟨?_, ?_⟩) (by assumption) ?_
      rotate_left 2
      · simp only [List.getElem?_toArray, List.getElem?_cons_succ, List.getElem?_cons_zero]; rfl
      · exact fun _ _ _ h => h
      · rfl
      · (intro w hSw; (try dsimp only at hSw); go_simp) <;> with_reducible rfl
      try simp only [Act.put, List.setIfInBounds_toArray, List.set_cons_zero, List.set_cons_succ]
      refine wpAnyT_take 6 (oi := ?_) (v := ?_) ?_ (by kernel_rfl) (by kernel_rfl) (by kernel_rfl) (by kernel_rfl) (by kernel_rfl) ?_ (Or.inl ⟨?_, ?_⟩) (by assumption) ?_
      rotate_left 2
      · simp only [List.getElem?_toArray, List.getElem?_cons_succ, List.getElem?_cons_zero]; rfl
      · exact fun _ _ _ h => h
      · rfl
      · (intro w hSw; (try dsimp only at hSw); go_simp) <;> with_reducible rfl
      try simp only [Act.put, List.setIfInBounds_toArray, List.set_cons_zero, List.set_cons_succ]
      refine wpAnyT_take 7 (oi := ?_) (v := ?_) ?_ (by kernel_rfl) (by kernel_rfl) (by kernel_rfl) (by kernel_rfl) (by kernel_rfl) ?_ (Or.inl ⟨?_, ?_⟩) (by assumption) ?_
      rotate_left 2
      · simp only [List.getElem?_toArray, List.getElem?_cons_succ, List.getElem?_cons_zero]; rfl
      · exact fun _ _ _ h => h
      · rfl
      · (intro w hSw; (try dsimp only at hSw); go_simp) <;> with_reducible rfl
      try simp only [Act.put, List.setIfInBounds_toArray, List.set_cons_zero, List.set_cons_succ]
      refine wpAnyT_take 8 (oi := ?_) (v := ?_) ?_ (by kernel_rfl) (by kernel_rfl) (by kernel_rfl) (by kernel_rfl) (by kernel_rfl) ?_ (Or.inl ⟨?_, ?_⟩) (by assumption) ?_
      rotate_left 2
      · simp only [List.getElem?_toArray, List.getElem?_cons_succ, List.getElem?_cons_zero]; rfl
      · exact fun _ _ _ h => h
      · rfl
      · (intro w hSw; (try dsimp only at hSw); go_simp) <;> with_reducible rfl
      try simp only [Act.put, List.setIfInBounds_toArray, List.set_cons_zero, List.set_cons_succ]
      refine wpAnyT_take 9 (oi := ?_) (v := ?_) ?_ (by kernel_rfl) (by kernel_rfl) (by kernel_rfl) (by kernel_rfl) (by kernel_rfl) ?_ (Or.inl ⟨?_, ?_⟩) (by assumption) ?_
      rotate_left 2
      · simp only [List.getElem?_toArray, List.getElem?_cons_succ, List.getElem?_cons_zero]; rfl
      · exact fun _ _ _ h => h
      · rfl
      · (intro w hSw; (try dsimp only at hSw); go_simp) <;> with_reducible rfl
      try simp only [Act.put, List.setIfInBounds_toArray, List.set_cons_zero, List.set_cons_succ]
      refine wpAnyT_take 10 (oi := ?_) (v := ?_) ?_ (by kernel_rfl) (by kernel_rfl) (by kernel_rfl) (by kernel_rfl) (by kernel_rfl) ?_ (Or.inl ⟨?_, ?_⟩) (by assumption) ?_
      rotate_left 2
      · simp only [List.getElem?_toArray, List.getElem?_cons_succ, List.getElem?_cons_zero]; rfl
      · exact fun _ _ _ h => h
      · rfl
      · (intro w hSw; (try dsimp only at hSw); go_simp) <;> with_reducible rfl
      try simp only [Act.put, List.setIfInBounds_toArray, List.set_cons_zero, List.set_cons_succ]
      refine wpAnyT_take 11 (oi := ?_) (v := ?_) ?_ (by kernel_rfl) (by kernel_rfl) (by kernel_rfl) (by kernel_rfl) (by kernel_rfl) ?_ (Or.inl ⟨?_, ?_⟩) (by assumption) ?_
      rotate_left 2
      · simp only [List.getElem?_toArray, List.getElem?_cons_succ, List.getElem?_cons_zero]; rfl
      · exact fun _ _ _ h => h
      · rfl
      · (intro w hSw; (try dsimp only at hSw); go_simp) <;> with_reducible rfl
      try simp only [Act.put, List.setIfInBounds_toArray, List.set_cons_zero, List.set_cons_succ]
      refine wpAnyT_take 14 (oi := ?_) (v := ?_) ?_ (by kernel_rfl) (by kernel_rfl) (by kernel_rfl) (by kernel_rfl) (by kernel_rfl) ?_ (Or.inl ⟨?_, ?_⟩) (by assumption) ?_
      rotate_left 2
      · simp only [List.getElem?_toArray, List.getElem?_cons_succ, List.getElem?_cons_zero]; rfl
      · exact fun _ _ _ h => h
      · rfl
      · (intro w hSw; (try dsimp only at hSw); go_simp) <;> with_reducible rfl
      try simp only [Act.put, List.setIfInBounds_toArray, List.set_cons_zero, List.set_cons_succ]
      refine wpAnyT_take 15 (oi := ?_) (v := ?_) ?_ (by kernel_rfl) (by kernel_rfl) (by kernel_rfl) (by kernel_rfl) (by kernel_rfl) ?_ (Or.inl ⟨?_, ?_⟩) (by assumption) ?_
      rotate_left 2
      · simp only [List.getElem?_toArray, List.getElem?_cons_succ, List.getElem?_cons_zero]; rfl
      · exact fun _ _ _ h => h
      · rfl
      · (intro w hSw; (try dsimp only at hSw); go_simp) <;> with_reducible rfl
      try simp only [Act.put, List.setIfInBounds_toArray, List.set_cons_zero, List.set_cons_succ]
      refine wpAnyT_step 12 (o := ?_) (by kernel_rfl) ?_ (fun K hK => ?_)
      rotate_left 1
      · simp only [List.getElem?_toArray, List.getElem?_cons_succ, List.getElem?_cons_zero]; rfl
      go_simp
      refine hK.out _ _ (fun _ => ⟨(hbW.cell hlt).trans c1', HV.out _ hbW⟩) (fun hH => ?_)
      clear hHeld; have hHeld := hH (by decide); clear hH hK K
      try simp only [Act.put, List.setIfInBounds_toArray, List.set_cons_zero, List.set_cons_succ]
      refine wpAnyT_step 13 (o := ?_) (by kernel_rfl) ?_ (fun K hK => ?_)
      rotate_left 1
      · simp only [List.getElem?_toArray, List.getElem?_cons_succ, List.getElem?_cons_zero]; rfl
      rw [if_pos (by rfl)]
      refine wp_append_fresh _ _ 61 rfl 0 83 i0 (.agg #[.bool false, .string ⟨#[]⟩, .int .i64 0]) 3 32 Try.underlying61 hi hz0 hz1 hz2 rfl (by decide) (.slice pv lcv ccv) (d.burn.2.file f).l.length (rcells (d.burn.2.file f).l) rfl HH.out.2.2.2.2.1 ⟨w2.heap.size, 0, none⟩ 1 1 [.bool false, .string (strOfNums b), .int .i64 0] rfl rfl hnews (by simp [Value.oneCell']) (by unfold maxLen; omega) (by omega) (by omega) ?_
      intro v' w1 hown' hgrow hfr
      have hDw := hgrow.block R (by simp; omega) (fun e => by have := HH.out.2.1.2.2 R e.symm; have := HH.out.1.role; omega)
      have d1 : w1.cell? ⟨R, f * 2 + 1, none⟩ = some (.slice pv lcv ccv) := (World.cell?_of_block hDw).trans ((World.cell?_of_block (hbW.block R hlt)).trans c1')
      have z1 : w1.frozen? ⟨R, f * 2 + 1, none⟩ = false := (World.frozen?_of_block hDw).trans (HH.out.2.2.1.fz _)
      have hcv1 : (convert 33 9 (.slice p b.length cap)).run Try.prog w1 = .ok (.string (strOfNums b)) w1 := by
        refine rd_text ?_
        rcases HRD.out with hx | ⟨ax, gx, ox, cx, x1, x2, x3, x4⟩
        · exact .inl hx
        · refine .inr ⟨ax, gx, ox, cx, x1, x2, fun h0 => (x3 h0).1, fun j hj => ?_⟩
          have hg0 := (x3 (by omega)).2
          have hcx := x4 j hj
          have hgl : gx < w2.heap.size := block_lt_of_cell hcx
          rw [World.cell?_of_block (hgrow.block gx (by simp; omega) (fun e => by have := HH.out.2.2.2.2.2 gx e.symm; omega)), World.cell?_of_block (hbW.block gx hgl)]
          exact hcx
      obtain ⟨p', cap', rfl⟩ := own_shape hown'
      refine hK.out _ _ (fun _ => ⟨d1, hcv1⟩) (fun hH => ?_)
      clear hHeld; have hHeld := hH (by decide); clear hH hK K
      try simp only [Act.put, List.setIfInBounds_toArray, List.set_cons_zero, List.set_cons_succ]
      refine wpAnyT_take 16 (oi := ?_) (v := ?_) ?_ (by kernel_rfl) (by kernel_rfl) (by kernel_rfl) (by kernel_rfl) (by kernel_rfl) ?_ (Or.inl ⟨?_, ?_⟩) (by assumption) ?_
      rotate_left 2
      · simp only [List.getElem?_toArray, List.getElem?_cons_succ, List.getElem?_cons_zero]; rfl
      · exact fun _ _ _ h => h
      · rfl
      · (intro w hSw; (try dsimp only at hSw); go_simp) <;> with_reducible rfl
      try simp only [Act.put, List.setIfInBounds_toArray, List.set_cons_zero, List.set_cons_succ]
      refine wpAnyT_take 17 (oi := ?_) (v := ?_) ?_ (by kernel_rfl) (by kernel_rfl) (by kernel_rfl) (by kernel_rfl) (by kernel_rfl) ?_ (Or.inl ⟨?_, ?_⟩) (by assumption) ?_
      rotate_left 2
      · simp only [List.getElem?_toArray, List.getElem?_cons_succ, List.getElem?_cons_zero]; rfl
      · exact fun _ _ _ h => h
      · rfl
      · (intro w hSw; (try dsimp only at hSw); go_simp) <;> with_reducible rfl
      try simp only [Act.put, List.setIfInBounds_toArray, List.set_cons_zero, List.set_cons_succ]
      refine wpAnyT_step 18 (o := ?_) (by kernel_rfl) ?_ (fun K hK => ?_)
      rotate_left 1
      · simp only [List.getElem?_toArray, List.getElem?_cons_succ, List.getElem?_cons_zero]; rfl
      go_simp
      refine hK.out _ _ (fun hx => absurd hx (by decide)) (fun _ => ?_)
      clear hHeld hK K
      refine wpAnyT_done (by kernel_rfl) ?_ _
      try simp only [Act.put, List.setIfInBounds_toArray, List.set_cons_zero, List.set_cons_succ]
      go_wp2_with fail
      go_ret
      obtain ⟨ρ', r1, r2⟩ := HH.out.2.2.1.appended (c := .wr b) hf ((hbW.cell hlt).trans c0) (by rw [Nat.mul_comm]; exact (hbW.cell hlt).trans c1') HH.out.2.2.2 (fun m hm => by cases hm) hown' hgrow hfr
      rw [Nat.mul_comm 2 f] at r1 r2
      exact ⟨rfl, ρ', r1, (HM.out.trans (Mr.ofBelow ρ2 hbW)).trans r2⟩
  · rw [if_pos hm]
    generalize rmay d.power F = z at km hm
    clear h
    go_enter Try.func30, Try.ntmps30
    go_wp2_with fail
    refine km.mono ?_
    rintro e w1 ⟨rfl, hw1⟩
    subst hw1
    go_wp2_with fail
    go_ret
    exact ⟨rfl, ρ, H.out, Mr.refl ρ _⟩
end Go.Proofs.Ytfohemgfiidokaa
